/- The code computes them: printed by lift.py, part 5. -/
import Derived.Test.YtebbaokcgnjfiaaProg
import Derived.Test.YtebbaokcgnjfiaaLAP
import Derived.Test.YtebbaokcgnjfiaaLA4
set_option linter.unusedVariables false
set_option linter.unusedSimpArgs false
namespace Go.Proofs.Ytebbaokcgnjfiaa.F
open Go Go.RowKit Go.Proofs.Ytebbaokcgnjfiaa Go.Proofs.Ytebbaokcgnjfiaa.K
set_option maxRecDepth 100000
theorem ref15_short_c {m : Mem} {w : World} (hm : Has m w) (b : (List UInt8)) (A0_0 : Option Addr) (c0_0 : Nat) (s0_0 : SlI rU8 m A0_0 c0_0 b) (at_ : Int) {r : (TApiInode × Bool)} (hf : ref15_short b at_ = some r) :
    Calls Try.prog 70 #[.slice A0_0 b.length c0_0, .int .i64 at_] w fun e w' => ∃ v, e = .returned v ∧ ∃ Az_0_9 : Option Addr, ∃ cz_0_9 : Nat, ∃ m' : Mem, v = .tuple #[.agg #[.int .i64 r.1.Kind, .int .i64 r.1.Mode, .int .i64 r.1.Uid, .int .i64 r.1.Gid, .int .i64 r.1.Time, .int .i64 r.1.Links, .int .i64 r.1.Attrs, .int .i64 r.1.Size, .int .i64 r.1.Start, .slice Az_0_9 r.1.Words.length cz_0_9, .int .i64 r.1.Frag, .int .i64 r.1.Off, .int .i64 r.1.Tail, .int .i64 r.1.Dir, .int .i64 r.1.Bytes, .int .i64 r.1.Parent, .string ⟨r.1.Target.toArray⟩, .int .i64 r.1.Dev], .bool r.2] ∧ St w noF m m' [] w' ∧ SlI rI64 m' Az_0_9 cz_0_9 r.1.Words ∧ r.1.Target.length ≤ 9223372036854775807 := by
  unfold ref15_short at hf
  have H := St.start0 hm
  refine callsR Try.func70 (by kernel_rfl) (by kernel_rfl) ?_
  refine seg 2 [.op [0] 0, .co [1]] [(0, .slice A0_0 b.length c0_0), (1, .int .i64 at_)] (by kernel_rfl) ?_
  refine st (newS (some 4) (fun g => .pointer (some ⟨g, 0, none⟩)) [.int .i64 0, .int .i64 0, .int .i64 0, .int .i64 0, .int .i64 0, .int .i64 0, .int .i64 0, .int .i64 0, .int .i64 0, .slice none 0 0, .int .i64 0, .int .i64 0, .int .i64 0, .int .i64 0, .int .i64 0, .int .i64 0, .string ⟨([] : List UInt8).toArray⟩, .int .i64 0] 46 H (by kernel_rfl) ?_)
  intro g1 w1 H
  refine seg 11 [.op [1, 0, 0] 6, .co [1, 0, 1], .co [1, 1]] [(0, .slice A0_0 b.length c0_0), (1, .int .i64 at_), (4, .pointer (some (⟨g1, 0, none⟩))), (13, .bool ((IntKind.i64.wrap ((b.length : Int) - at_)) != 23))] (by kernel_rfl) ?_
  rcases condT hf with ⟨hb12, hf⟩ | ⟨hb12, hf⟩
  · rw [hb12]
    refine seg 27 [.op [1, 0, 1, 0, 0] 1, .co [1, 0, 1, 0, 1], .co [1, 1]] [(4, .pointer (some (⟨g1, 0, none⟩))), (36, .agg #[.int .i64 0, .int .i64 0, .int .i64 0, .int .i64 0, .int .i64 0, .int .i64 0, .int .i64 0, .int .i64 0, .int .i64 0, .slice none 0 0, .int .i64 0, .int .i64 0, .int .i64 0, .int .i64 0, .int .i64 0, .int .i64 0, .string ⟨([] : List UInt8).toArray⟩, .int .i64 0])] (by kernel_rfl) ?_
    refine st (stAggS none 46 0 g1 0 [.int .i64 0, .int .i64 0, .int .i64 0, .int .i64 0, .int .i64 0, .int .i64 0, .int .i64 0, .int .i64 0, .int .i64 0, .slice none 0 0, .int .i64 0, .int .i64 0, .int .i64 0, .int .i64 0, .int .i64 0, .int .i64 0, .string ⟨([] : List UInt8).toArray⟩, .int .i64 0] [.int .i64 0, .int .i64 0, .int .i64 0, .int .i64 0, .int .i64 0, .int .i64 0, .int .i64 0, .int .i64 0, .int .i64 0, .slice none 0 0, .int .i64 0, .int .i64 0, .int .i64 0, .int .i64 0, .int .i64 0, .int .i64 0, .string ⟨([] : List UInt8).toArray⟩, .int .i64 0] [.int .i64 0, .int .i64 0, .int .i64 0, .int .i64 0, .int .i64 0, .int .i64 0, .int .i64 0, .int .i64 0, .int .i64 0, .slice none 0 0, .int .i64 0, .int .i64 0, .int .i64 0, .int .i64 0, .int .i64 0, .int .i64 0, .string ⟨([] : List UInt8).toArray⟩, .int .i64 0] 46 H rfl (by kernel_rfl) (by kernel_rfl) (by rfl) (of_decide_eq_true rfl) rfl ?_)
    intro w13 H
    refine seg 2 [.co [1, 0, 1, 0, 1], .co [1, 1]] [(4, .pointer (some (⟨g1, 0, none⟩))), (5, .bool false)] (by kernel_rfl) ?_
    refine retC [.agg #[.int .i64 0, .int .i64 0, .int .i64 0, .int .i64 0, .int .i64 0, .int .i64 0, .int .i64 0, .int .i64 0, .int .i64 0, .slice none 0 0, .int .i64 0, .int .i64 0, .int .i64 0, .int .i64 0, .int .i64 0, .int .i64 0, .string ⟨([] : List UInt8).toArray⟩, .int .i64 0], .bool false] (by kernel_rfl) ⟨⟨_, rfl, ldv_agg 46 (⟨g1, 0, none⟩) [.int .i64 0, .int .i64 0, .int .i64 0, .int .i64 0, .int .i64 0, .int .i64 0, .int .i64 0, .int .i64 0, .int .i64 0, .slice none 0 0, .int .i64 0, .int .i64 0, .int .i64 0, .int .i64 0, .int .i64 0, .int .i64 0, .string ⟨([] : List UInt8).toArray⟩, .int .i64 0] (by kernel_rfl) (H.cellsB 0 rfl (by rfl))⟩, rfl, trivial⟩ ?_
    obtain rfl : (({ Kind := 0, Mode := 0, Uid := 0, Gid := 0, Time := 0, Links := 0, Attrs := 0, Size := 0, Start := 0, Words := [], Frag := 0, Off := 0, Tail := 0, Dir := 0, Bytes := 0, Parent := 0, Target := ([] : List UInt8), Dev := 0 } : TApiInode), false) = r := (Option.some.inj hf)
    exact ⟨_, rfl, none, 0, m, rfl, (St.takeN 0 H), (SlI.nil _ _), (Nat.le_of_ble_eq_true rfl)⟩
  · rw [hb12]
    refine seg 2 [.op [1, 0, 0] 8, .co [1, 0, 1], .co [1, 1]] [(0, .slice A0_0 b.length c0_0), (1, .int .i64 at_), (4, .pointer (some (⟨g1, 0, none⟩))), (13, .bool false), (14, .slice A0_0 b.length c0_0), (15, .int .i64 at_)] (by kernel_rfl) ?_
    obtain ⟨x_, h_x_, hf⟩ := bindE hf
    obtain ⟨i014, i114, ix14⟩ := idx_some h_x_
    obtain ⟨ad15, _, ea15, rfl, hc15⟩ := s0_0.at_ ix14 (by decide)
    refine st (idxS (some 16) 30 5 1 A0_0 ad15 b.length c0_0 .i64 at_ ea15 (by kernel_rfl) (by kernel_rfl) i014 i114 ?_)
    refine st (ldR (some 17) 5 (ad15.add (at_.toNat * 1)) (.int .u8 (x_.toNat : Int)) (by kernel_rfl) (by kernel_rfl) (H.cellI (mc0 (hc15 0 _ rfl))) ?_)
    refine seg 3 [.op [1, 0, 0] 13, .co [1, 0, 1], .co [1, 1]] [(0, .slice A0_0 b.length c0_0), (1, .int .i64 at_), (4, .pointer (some (⟨g1, 0, none⟩))), (20, .bool ((x_.toNat : Int) != 3))] (by kernel_rfl) ?_
    rcases condT hf with ⟨hb16, hf⟩ | ⟨hb16, hf⟩
    · rw [hb16]
      refine seg 20 [.op [1, 0, 1, 0, 0] 1, .co [1, 0, 1, 0, 1], .co [1, 1]] [(4, .pointer (some (⟨g1, 0, none⟩))), (36, .agg #[.int .i64 0, .int .i64 0, .int .i64 0, .int .i64 0, .int .i64 0, .int .i64 0, .int .i64 0, .int .i64 0, .int .i64 0, .slice none 0 0, .int .i64 0, .int .i64 0, .int .i64 0, .int .i64 0, .int .i64 0, .int .i64 0, .string ⟨([] : List UInt8).toArray⟩, .int .i64 0])] (by kernel_rfl) ?_
      refine st (stAggS none 46 0 g1 0 [.int .i64 0, .int .i64 0, .int .i64 0, .int .i64 0, .int .i64 0, .int .i64 0, .int .i64 0, .int .i64 0, .int .i64 0, .slice none 0 0, .int .i64 0, .int .i64 0, .int .i64 0, .int .i64 0, .int .i64 0, .int .i64 0, .string ⟨([] : List UInt8).toArray⟩, .int .i64 0] [.int .i64 0, .int .i64 0, .int .i64 0, .int .i64 0, .int .i64 0, .int .i64 0, .int .i64 0, .int .i64 0, .int .i64 0, .slice none 0 0, .int .i64 0, .int .i64 0, .int .i64 0, .int .i64 0, .int .i64 0, .int .i64 0, .string ⟨([] : List UInt8).toArray⟩, .int .i64 0] [.int .i64 0, .int .i64 0, .int .i64 0, .int .i64 0, .int .i64 0, .int .i64 0, .int .i64 0, .int .i64 0, .int .i64 0, .slice none 0 0, .int .i64 0, .int .i64 0, .int .i64 0, .int .i64 0, .int .i64 0, .int .i64 0, .string ⟨([] : List UInt8).toArray⟩, .int .i64 0] 46 H rfl (by kernel_rfl) (by kernel_rfl) (by rfl) (of_decide_eq_true rfl) rfl ?_)
      intro w17 H
      refine seg 2 [.co [1, 0, 1, 0, 1], .co [1, 1]] [(4, .pointer (some (⟨g1, 0, none⟩))), (5, .bool false)] (by kernel_rfl) ?_
      refine retC [.agg #[.int .i64 0, .int .i64 0, .int .i64 0, .int .i64 0, .int .i64 0, .int .i64 0, .int .i64 0, .int .i64 0, .int .i64 0, .slice none 0 0, .int .i64 0, .int .i64 0, .int .i64 0, .int .i64 0, .int .i64 0, .int .i64 0, .string ⟨([] : List UInt8).toArray⟩, .int .i64 0], .bool false] (by kernel_rfl) ⟨⟨_, rfl, ldv_agg 46 (⟨g1, 0, none⟩) [.int .i64 0, .int .i64 0, .int .i64 0, .int .i64 0, .int .i64 0, .int .i64 0, .int .i64 0, .int .i64 0, .int .i64 0, .slice none 0 0, .int .i64 0, .int .i64 0, .int .i64 0, .int .i64 0, .int .i64 0, .int .i64 0, .string ⟨([] : List UInt8).toArray⟩, .int .i64 0] (by kernel_rfl) (H.cellsB 0 rfl (by rfl))⟩, rfl, trivial⟩ ?_
      obtain rfl : (({ Kind := 0, Mode := 0, Uid := 0, Gid := 0, Time := 0, Links := 0, Attrs := 0, Size := 0, Start := 0, Words := [], Frag := 0, Off := 0, Tail := 0, Dir := 0, Bytes := 0, Parent := 0, Target := ([] : List UInt8), Dev := 0 } : TApiInode), false) = r := (Option.some.inj hf)
      exact ⟨_, rfl, none, 0, m, rfl, (St.takeN 0 H), (SlI.nil _ _), (Nat.le_of_ble_eq_true rfl)⟩
    · rw [hb16]
      refine seg 3 [.op [1, 0, 0] 16, .co [1, 0, 1], .co [1, 1]] [(0, .slice A0_0 b.length c0_0), (1, .int .i64 at_), (4, .pointer (some (⟨g1, 0, none⟩))), (20, .bool false), (21, .slice A0_0 b.length c0_0), (23, .int .i64 (IntKind.i64.wrap (at_ + 20)))] (by kernel_rfl) ?_
      replace H : St w noF m m [blkI g1 [.int .i64 0, .int .i64 0, .int .i64 0, .int .i64 0, .int .i64 0, .int .i64 0, .int .i64 0, .int .i64 0, .int .i64 0, .slice none 0 0, .int .i64 0, .int .i64 0, .int .i64 0, .int .i64 0, .int .i64 0, .int .i64 0, .string ⟨([] : List UInt8).toArray⟩, .int .i64 0] 46] w1 := H
      obtain ⟨x_1, h_x_1, hf⟩ := bindE hf
      obtain ⟨i018, i118, ix18⟩ := idx_some h_x_1
      obtain ⟨ad19, _, ea19, rfl, hc19⟩ := s0_0.at_ ix18 (by decide)
      refine st (idxS (some 24) 30 5 1 A0_0 ad19 b.length c0_0 .i64 (IntKind.i64.wrap (at_ + 20)) ea19 (by kernel_rfl) (by kernel_rfl) i018 i118 ?_)
      refine st (ldR (some 25) 5 (ad19.add ((IntKind.i64.wrap (at_ + 20)).toNat * 1)) (.int .u8 (x_1.toNat : Int)) (by kernel_rfl) (by kernel_rfl) (H.cellI (mc0 (hc19 0 _ rfl))) ?_)
      refine seg 3 [.op [1, 0, 0] 21, .co [1, 0, 1], .co [1, 1]] [(0, .slice A0_0 b.length c0_0), (1, .int .i64 at_), (4, .pointer (some (⟨g1, 0, none⟩))), (28, .bool ((x_1.toNat : Int) != 1))] (by kernel_rfl) ?_
      rcases condT hf with ⟨hb20, hf⟩ | ⟨hb20, hf⟩
      · rw [hb20]
        refine seg 12 [.op [1, 0, 1, 0, 0] 1, .co [1, 0, 1, 0, 1], .co [1, 1]] [(4, .pointer (some (⟨g1, 0, none⟩))), (36, .agg #[.int .i64 0, .int .i64 0, .int .i64 0, .int .i64 0, .int .i64 0, .int .i64 0, .int .i64 0, .int .i64 0, .int .i64 0, .slice none 0 0, .int .i64 0, .int .i64 0, .int .i64 0, .int .i64 0, .int .i64 0, .int .i64 0, .string ⟨([] : List UInt8).toArray⟩, .int .i64 0])] (by kernel_rfl) ?_
        refine st (stAggS none 46 0 g1 0 [.int .i64 0, .int .i64 0, .int .i64 0, .int .i64 0, .int .i64 0, .int .i64 0, .int .i64 0, .int .i64 0, .int .i64 0, .slice none 0 0, .int .i64 0, .int .i64 0, .int .i64 0, .int .i64 0, .int .i64 0, .int .i64 0, .string ⟨([] : List UInt8).toArray⟩, .int .i64 0] [.int .i64 0, .int .i64 0, .int .i64 0, .int .i64 0, .int .i64 0, .int .i64 0, .int .i64 0, .int .i64 0, .int .i64 0, .slice none 0 0, .int .i64 0, .int .i64 0, .int .i64 0, .int .i64 0, .int .i64 0, .int .i64 0, .string ⟨([] : List UInt8).toArray⟩, .int .i64 0] [.int .i64 0, .int .i64 0, .int .i64 0, .int .i64 0, .int .i64 0, .int .i64 0, .int .i64 0, .int .i64 0, .int .i64 0, .slice none 0 0, .int .i64 0, .int .i64 0, .int .i64 0, .int .i64 0, .int .i64 0, .int .i64 0, .string ⟨([] : List UInt8).toArray⟩, .int .i64 0] 46 H rfl (by kernel_rfl) (by kernel_rfl) (by rfl) (of_decide_eq_true rfl) rfl ?_)
        intro w21 H
        refine seg 2 [.co [1, 0, 1, 0, 1], .co [1, 1]] [(4, .pointer (some (⟨g1, 0, none⟩))), (5, .bool false)] (by kernel_rfl) ?_
        refine retC [.agg #[.int .i64 0, .int .i64 0, .int .i64 0, .int .i64 0, .int .i64 0, .int .i64 0, .int .i64 0, .int .i64 0, .int .i64 0, .slice none 0 0, .int .i64 0, .int .i64 0, .int .i64 0, .int .i64 0, .int .i64 0, .int .i64 0, .string ⟨([] : List UInt8).toArray⟩, .int .i64 0], .bool false] (by kernel_rfl) ⟨⟨_, rfl, ldv_agg 46 (⟨g1, 0, none⟩) [.int .i64 0, .int .i64 0, .int .i64 0, .int .i64 0, .int .i64 0, .int .i64 0, .int .i64 0, .int .i64 0, .int .i64 0, .slice none 0 0, .int .i64 0, .int .i64 0, .int .i64 0, .int .i64 0, .int .i64 0, .int .i64 0, .string ⟨([] : List UInt8).toArray⟩, .int .i64 0] (by kernel_rfl) (H.cellsB 0 rfl (by rfl))⟩, rfl, trivial⟩ ?_
        obtain rfl : (({ Kind := 0, Mode := 0, Uid := 0, Gid := 0, Time := 0, Links := 0, Attrs := 0, Size := 0, Start := 0, Words := [], Frag := 0, Off := 0, Tail := 0, Dir := 0, Bytes := 0, Parent := 0, Target := ([] : List UInt8), Dev := 0 } : TApiInode), false) = r := (Option.some.inj hf)
        exact ⟨_, rfl, none, 0, m, rfl, (St.takeN 0 H), (SlI.nil _ _), (Nat.le_of_ble_eq_true rfl)⟩
      · rw [hb20]
        refine seg 3 [.op [1, 0, 0] 24, .co [1, 0, 1], .co [1, 1]] [(0, .slice A0_0 b.length c0_0), (1, .int .i64 at_), (4, .pointer (some (⟨g1, 0, none⟩))), (28, .bool false), (29, .slice A0_0 b.length c0_0), (31, .int .i64 (IntKind.i64.wrap (at_ + 21)))] (by kernel_rfl) ?_
        obtain ⟨x_2, h_x_2, hf⟩ := bindE hf
        obtain ⟨i022, i122, ix22⟩ := idx_some h_x_2
        obtain ⟨ad23, _, ea23, rfl, hc23⟩ := s0_0.at_ ix22 (by decide)
        refine st (idxS (some 32) 30 5 1 A0_0 ad23 b.length c0_0 .i64 (IntKind.i64.wrap (at_ + 21)) ea23 (by kernel_rfl) (by kernel_rfl) i022 i122 ?_)
        refine st (ldR (some 33) 5 (ad23.add ((IntKind.i64.wrap (at_ + 21)).toNat * 1)) (.int .u8 (x_2.toNat : Int)) (by kernel_rfl) (by kernel_rfl) (H.cellI (mc0 (hc23 0 _ rfl))) ?_)
        refine seg 3 [.co [1, 0, 1], .co [1, 1]] [(0, .slice A0_0 b.length c0_0), (1, .int .i64 at_), (4, .pointer (some (⟨g1, 0, none⟩))), (35, .bool ((x_2.toNat : Int) != 0))] (by kernel_rfl) ?_
        rcases condT hf with ⟨hb26, hf⟩ | ⟨hb26, hf⟩
        · rw [hb26]
          refine seg 4 [.op [1, 0, 1, 0, 0] 1, .co [1, 0, 1, 0, 1], .co [1, 1]] [(4, .pointer (some (⟨g1, 0, none⟩))), (36, .agg #[.int .i64 0, .int .i64 0, .int .i64 0, .int .i64 0, .int .i64 0, .int .i64 0, .int .i64 0, .int .i64 0, .int .i64 0, .slice none 0 0, .int .i64 0, .int .i64 0, .int .i64 0, .int .i64 0, .int .i64 0, .int .i64 0, .string ⟨([] : List UInt8).toArray⟩, .int .i64 0])] (by kernel_rfl) ?_
          refine st (stAggS none 46 0 g1 0 [.int .i64 0, .int .i64 0, .int .i64 0, .int .i64 0, .int .i64 0, .int .i64 0, .int .i64 0, .int .i64 0, .int .i64 0, .slice none 0 0, .int .i64 0, .int .i64 0, .int .i64 0, .int .i64 0, .int .i64 0, .int .i64 0, .string ⟨([] : List UInt8).toArray⟩, .int .i64 0] [.int .i64 0, .int .i64 0, .int .i64 0, .int .i64 0, .int .i64 0, .int .i64 0, .int .i64 0, .int .i64 0, .int .i64 0, .slice none 0 0, .int .i64 0, .int .i64 0, .int .i64 0, .int .i64 0, .int .i64 0, .int .i64 0, .string ⟨([] : List UInt8).toArray⟩, .int .i64 0] [.int .i64 0, .int .i64 0, .int .i64 0, .int .i64 0, .int .i64 0, .int .i64 0, .int .i64 0, .int .i64 0, .int .i64 0, .slice none 0 0, .int .i64 0, .int .i64 0, .int .i64 0, .int .i64 0, .int .i64 0, .int .i64 0, .string ⟨([] : List UInt8).toArray⟩, .int .i64 0] 46 H rfl (by kernel_rfl) (by kernel_rfl) (by rfl) (of_decide_eq_true rfl) rfl ?_)
          intro w27 H
          refine seg 2 [.co [1, 0, 1, 0, 1], .co [1, 1]] [(4, .pointer (some (⟨g1, 0, none⟩))), (5, .bool false)] (by kernel_rfl) ?_
          refine retC [.agg #[.int .i64 0, .int .i64 0, .int .i64 0, .int .i64 0, .int .i64 0, .int .i64 0, .int .i64 0, .int .i64 0, .int .i64 0, .slice none 0 0, .int .i64 0, .int .i64 0, .int .i64 0, .int .i64 0, .int .i64 0, .int .i64 0, .string ⟨([] : List UInt8).toArray⟩, .int .i64 0], .bool false] (by kernel_rfl) ⟨⟨_, rfl, ldv_agg 46 (⟨g1, 0, none⟩) [.int .i64 0, .int .i64 0, .int .i64 0, .int .i64 0, .int .i64 0, .int .i64 0, .int .i64 0, .int .i64 0, .int .i64 0, .slice none 0 0, .int .i64 0, .int .i64 0, .int .i64 0, .int .i64 0, .int .i64 0, .int .i64 0, .string ⟨([] : List UInt8).toArray⟩, .int .i64 0] (by kernel_rfl) (H.cellsB 0 rfl (by rfl))⟩, rfl, trivial⟩ ?_
          obtain rfl : (({ Kind := 0, Mode := 0, Uid := 0, Gid := 0, Time := 0, Links := 0, Attrs := 0, Size := 0, Start := 0, Words := [], Frag := 0, Off := 0, Tail := 0, Dir := 0, Bytes := 0, Parent := 0, Target := ([] : List UInt8), Dev := 0 } : TApiInode), false) = r := (Option.some.inj hf)
          exact ⟨_, rfl, none, 0, m, rfl, (St.takeN 0 H), (SlI.nil _ _), (Nat.le_of_ble_eq_true rfl)⟩
        · rw [hb26]
          refine seg 4 [.op [1, 1, 0] 0, .co [1, 1, 1]] [(0, .slice A0_0 b.length c0_0), (1, .int .i64 at_), (4, .pointer (some (⟨g1, 0, none⟩)))] (by kernel_rfl) ?_
          refine st (newS (some 38) (fun g => .slice (some ⟨g, 0, none⟩) 0 0) [] 5 H (by kernel_rfl) ?_)
          intro g28 w28 H
          refine seg 2 [.op [1, 1, 0] 3, .co [1, 1, 1]] [(4, .pointer (some (⟨g1, 0, none⟩))), (38, .slice (some ⟨g28, 0, none⟩) 0 0), (39, .slice A0_0 b.length c0_0), (40, .int .i64 at_)] (by kernel_rfl) ?_
          replace H : St w noF m m [blkI g28 [] 5, blkI g1 [.int .i64 0, .int .i64 0, .int .i64 0, .int .i64 0, .int .i64 0, .int .i64 0, .int .i64 0, .int .i64 0, .int .i64 0, .slice none 0 0, .int .i64 0, .int .i64 0, .int .i64 0, .int .i64 0, .int .i64 0, .int .i64 0, .string ⟨([] : List UInt8).toArray⟩, .int .i64 0] 46] w28 := H
          obtain ⟨y_, h_y_, hf⟩ := bindE hf
          refine st (sliS (r := rU8) (some 41) 30 5 A0_0 c0_0 b y_ (some (.int .i64 at_)) none at_ (b.length : Int) s0_0 (by kernel_rfl) (by kernel_rfl) (.inr ⟨_, rfl⟩) (.inl ⟨rfl, rfl⟩) h_y_ ?_)
          intro A29 c29 hs29
          have H := H.toRow (r := rU8) (l := ([] : List UInt8)) 0 rfl (Rows.u8.2 rfl) (Nat.le_of_ble_eq_true rfl)
          obtain ⟨xs30, hr30, hx30⟩ := hs29.cs
          obtain ⟨b1, h_b1, hf⟩ := bindE hf
          refine st (appS (r := rU8) (some 42) 30 5 1 (.int .u8 0) 30 0 (some ⟨g28, 0, none⟩) A29 0 y_.length c29 ([] : List UInt8) y_ b1 _ H rfl ⟨Try.underlying30, by kernel_rfl⟩ rfl (by decide) (by kernel_rfl) (hx30.cs H.has) hr30 rfl h_b1 (by decide) (by decide) ?_)
          intro A31 c31 w31 H
          refine st (newS (some 43) (fun g => .slice (some ⟨g, 0, none⟩) 1 1) [.int .u8 0] 5 H (by kernel_rfl) ?_)
          intro g32 w32 H
          obtain ⟨b2, h_b2, hf⟩ := bindE hf
          refine st (appS (r := rU8) (some 44) 30 5 1 (.int .u8 0) 30 1 A31 (some ⟨g32, 0, none⟩) c31 1 1 b1 [(0 : UInt8)] b2 _ H rfl ⟨Try.underlying30, by kernel_rfl⟩ rfl (by decide) (by kernel_rfl) (Cs.of_blk (H.blk 0 rfl)) (Rows.u8.2 rfl) rfl h_b2 (by decide) (by decide) ?_)
          intro A33 c33 w33 H
          replace H := H.drop 0 rfl
          obtain ⟨mf34, hsub34, hsf34, H⟩ := H.fixR 0 rfl
          obtain ⟨guess, h_guess, hf⟩ := bindE hf
          refine st (callR (some 45) 69 #[.slice A33 b2.length c33, .int .i64 0] Try.call69 (ref15_guess_c H.has b2 A33 c33 hsf34 0 h_guess) (by kernel_rfl) ?_)
          rintro _ w35 ⟨A35_0_9, c35_0_9, mk35, rfl, hS35, hs35_0, hl35_0⟩
          have hsub35 := hS35.sub
          replace H := H.call0 hS35
          refine seg 3 [.op [1, 1, 0] 11, .co [1, 1, 1]] [(4, .pointer (some (⟨g1, 0, none⟩))), (46, .agg #[.int .i64 guess.1.Kind, .int .i64 guess.1.Mode, .int .i64 guess.1.Uid, .int .i64 guess.1.Gid, .int .i64 guess.1.Time, .int .i64 guess.1.Links, .int .i64 guess.1.Attrs, .int .i64 guess.1.Size, .int .i64 guess.1.Start, .slice A35_0_9 guess.1.Words.length c35_0_9, .int .i64 guess.1.Frag, .int .i64 guess.1.Off, .int .i64 guess.1.Tail, .int .i64 guess.1.Dir, .int .i64 guess.1.Bytes, .int .i64 guess.1.Parent, .string ⟨guess.1.Target.toArray⟩, .int .i64 guess.1.Dev]), (47, .bool guess.2)] (by kernel_rfl) ?_
          replace H : St w noF m mk35 [blkI g1 [.int .i64 0, .int .i64 0, .int .i64 0, .int .i64 0, .int .i64 0, .int .i64 0, .int .i64 0, .int .i64 0, .int .i64 0, .slice none 0 0, .int .i64 0, .int .i64 0, .int .i64 0, .int .i64 0, .int .i64 0, .int .i64 0, .string ⟨([] : List UInt8).toArray⟩, .int .i64 0] 46] w35 := H
          refine st (newS (some 6) (fun g => .pointer (some ⟨g, 0, none⟩)) [.int .i64 0, .int .i64 0, .int .i64 0, .int .i64 0, .int .i64 0, .int .i64 0, .int .i64 0, .int .i64 0, .int .i64 0, .slice none 0 0, .int .i64 0, .int .i64 0, .int .i64 0, .int .i64 0, .int .i64 0, .int .i64 0, .string ⟨([] : List UInt8).toArray⟩, .int .i64 0] 46 H (by kernel_rfl) ?_)
          intro g36 w36 H
          refine st (stAggS none 46 0 g36 0 [.int .i64 guess.1.Kind, .int .i64 guess.1.Mode, .int .i64 guess.1.Uid, .int .i64 guess.1.Gid, .int .i64 guess.1.Time, .int .i64 guess.1.Links, .int .i64 guess.1.Attrs, .int .i64 guess.1.Size, .int .i64 guess.1.Start, .slice A35_0_9 guess.1.Words.length c35_0_9, .int .i64 guess.1.Frag, .int .i64 guess.1.Off, .int .i64 guess.1.Tail, .int .i64 guess.1.Dir, .int .i64 guess.1.Bytes, .int .i64 guess.1.Parent, .string ⟨guess.1.Target.toArray⟩, .int .i64 guess.1.Dev] [.int .i64 0, .int .i64 0, .int .i64 0, .int .i64 0, .int .i64 0, .int .i64 0, .int .i64 0, .int .i64 0, .int .i64 0, .slice none 0 0, .int .i64 0, .int .i64 0, .int .i64 0, .int .i64 0, .int .i64 0, .int .i64 0, .string ⟨([] : List UInt8).toArray⟩, .int .i64 0] [.int .i64 guess.1.Kind, .int .i64 guess.1.Mode, .int .i64 guess.1.Uid, .int .i64 guess.1.Gid, .int .i64 guess.1.Time, .int .i64 guess.1.Links, .int .i64 guess.1.Attrs, .int .i64 guess.1.Size, .int .i64 guess.1.Start, .slice A35_0_9 guess.1.Words.length c35_0_9, .int .i64 guess.1.Frag, .int .i64 guess.1.Off, .int .i64 guess.1.Tail, .int .i64 guess.1.Dir, .int .i64 guess.1.Bytes, .int .i64 guess.1.Parent, .string ⟨guess.1.Target.toArray⟩, .int .i64 guess.1.Dev] 46 H rfl (by kernel_rfl) (by kernel_rfl) (by rfl) (of_decide_eq_true rfl) rfl ?_)
          intro w37 H
          refine seg 4 [.op [1, 1, 1, 0] 0, .co [1, 1, 1, 1]] [(4, .pointer (some (⟨g1, 0, none⟩))), (6, .pointer (some (⟨g36, 0, none⟩))), (7, .bool guess.2)] (by kernel_rfl) ?_
          refine st (ldAggR (some 48) 46 (⟨g36, 0, none⟩) [.int .i64 guess.1.Kind, .int .i64 guess.1.Mode, .int .i64 guess.1.Uid, .int .i64 guess.1.Gid, .int .i64 guess.1.Time, .int .i64 guess.1.Links, .int .i64 guess.1.Attrs, .int .i64 guess.1.Size, .int .i64 guess.1.Start, .slice A35_0_9 guess.1.Words.length c35_0_9, .int .i64 guess.1.Frag, .int .i64 guess.1.Off, .int .i64 guess.1.Tail, .int .i64 guess.1.Dir, .int .i64 guess.1.Bytes, .int .i64 guess.1.Parent, .string ⟨guess.1.Target.toArray⟩, .int .i64 guess.1.Dev] (by kernel_rfl) (by kernel_rfl) (H.cellsB 0 rfl (by rfl)) ?_)
          refine seg 1 [.op [1, 1, 1, 0] 2, .co [1, 1, 1, 1]] [(4, .pointer (some (⟨g1, 0, none⟩))), (48, .agg #[.int .i64 guess.1.Kind, .int .i64 guess.1.Mode, .int .i64 guess.1.Uid, .int .i64 guess.1.Gid, .int .i64 guess.1.Time, .int .i64 guess.1.Links, .int .i64 guess.1.Attrs, .int .i64 guess.1.Size, .int .i64 guess.1.Start, .slice A35_0_9 guess.1.Words.length c35_0_9, .int .i64 guess.1.Frag, .int .i64 guess.1.Off, .int .i64 guess.1.Tail, .int .i64 guess.1.Dir, .int .i64 guess.1.Bytes, .int .i64 guess.1.Parent, .string ⟨guess.1.Target.toArray⟩, .int .i64 guess.1.Dev]), (49, .bool guess.2)] (by kernel_rfl) ?_
          refine st (stAggS none 46 1 g1 0 [.int .i64 guess.1.Kind, .int .i64 guess.1.Mode, .int .i64 guess.1.Uid, .int .i64 guess.1.Gid, .int .i64 guess.1.Time, .int .i64 guess.1.Links, .int .i64 guess.1.Attrs, .int .i64 guess.1.Size, .int .i64 guess.1.Start, .slice A35_0_9 guess.1.Words.length c35_0_9, .int .i64 guess.1.Frag, .int .i64 guess.1.Off, .int .i64 guess.1.Tail, .int .i64 guess.1.Dir, .int .i64 guess.1.Bytes, .int .i64 guess.1.Parent, .string ⟨guess.1.Target.toArray⟩, .int .i64 guess.1.Dev] [.int .i64 0, .int .i64 0, .int .i64 0, .int .i64 0, .int .i64 0, .int .i64 0, .int .i64 0, .int .i64 0, .int .i64 0, .slice none 0 0, .int .i64 0, .int .i64 0, .int .i64 0, .int .i64 0, .int .i64 0, .int .i64 0, .string ⟨([] : List UInt8).toArray⟩, .int .i64 0] [.int .i64 guess.1.Kind, .int .i64 guess.1.Mode, .int .i64 guess.1.Uid, .int .i64 guess.1.Gid, .int .i64 guess.1.Time, .int .i64 guess.1.Links, .int .i64 guess.1.Attrs, .int .i64 guess.1.Size, .int .i64 guess.1.Start, .slice A35_0_9 guess.1.Words.length c35_0_9, .int .i64 guess.1.Frag, .int .i64 guess.1.Off, .int .i64 guess.1.Tail, .int .i64 guess.1.Dir, .int .i64 guess.1.Bytes, .int .i64 guess.1.Parent, .string ⟨guess.1.Target.toArray⟩, .int .i64 guess.1.Dev] 46 H rfl (by kernel_rfl) (by kernel_rfl) (by rfl) (of_decide_eq_true rfl) rfl ?_)
          intro w38 H
          refine seg 2 [.co [1, 1, 1, 1]] [(4, .pointer (some (⟨g1, 0, none⟩))), (5, .bool guess.2)] (by kernel_rfl) ?_
          refine retC [.agg #[.int .i64 guess.1.Kind, .int .i64 guess.1.Mode, .int .i64 guess.1.Uid, .int .i64 guess.1.Gid, .int .i64 guess.1.Time, .int .i64 guess.1.Links, .int .i64 guess.1.Attrs, .int .i64 guess.1.Size, .int .i64 guess.1.Start, .slice A35_0_9 guess.1.Words.length c35_0_9, .int .i64 guess.1.Frag, .int .i64 guess.1.Off, .int .i64 guess.1.Tail, .int .i64 guess.1.Dir, .int .i64 guess.1.Bytes, .int .i64 guess.1.Parent, .string ⟨guess.1.Target.toArray⟩, .int .i64 guess.1.Dev], .bool guess.2] (by kernel_rfl) ⟨⟨_, rfl, ldv_agg 46 (⟨g1, 0, none⟩) [.int .i64 guess.1.Kind, .int .i64 guess.1.Mode, .int .i64 guess.1.Uid, .int .i64 guess.1.Gid, .int .i64 guess.1.Time, .int .i64 guess.1.Links, .int .i64 guess.1.Attrs, .int .i64 guess.1.Size, .int .i64 guess.1.Start, .slice A35_0_9 guess.1.Words.length c35_0_9, .int .i64 guess.1.Frag, .int .i64 guess.1.Off, .int .i64 guess.1.Tail, .int .i64 guess.1.Dir, .int .i64 guess.1.Bytes, .int .i64 guess.1.Parent, .string ⟨guess.1.Target.toArray⟩, .int .i64 guess.1.Dev] (by kernel_rfl) (H.cellsB 1 rfl (by rfl))⟩, rfl, trivial⟩ ?_
          obtain rfl : (guess.1, guess.2) = r := (Option.some.inj hf)
          exact ⟨_, rfl, A35_0_9, c35_0_9, mk35, rfl, (St.takeN 0 H), hs35_0, hl35_0⟩
theorem ref15_Decode_c {m : Mem} {w : World} (hm : Has m w) (b : (List UInt8)) (A0_0 : Option Addr) (c0_0 : Nat) (s0_0 : SlI rU8 m A0_0 c0_0 b) (at_ : Int) {r : (TApiInode × Int × Int)} (hf : ref15_Decode b at_ = some r) :
    Calls Try.prog 32 #[.slice A0_0 b.length c0_0, .int .i64 at_] w fun e w' => ∃ v, e = .returned v ∧ ∃ Az_0_9 : Option Addr, ∃ cz_0_9 : Nat, ∃ m' : Mem, v = .tuple #[.agg #[.int .i64 r.1.Kind, .int .i64 r.1.Mode, .int .i64 r.1.Uid, .int .i64 r.1.Gid, .int .i64 r.1.Time, .int .i64 r.1.Links, .int .i64 r.1.Attrs, .int .i64 r.1.Size, .int .i64 r.1.Start, .slice Az_0_9 r.1.Words.length cz_0_9, .int .i64 r.1.Frag, .int .i64 r.1.Off, .int .i64 r.1.Tail, .int .i64 r.1.Dir, .int .i64 r.1.Bytes, .int .i64 r.1.Parent, .string ⟨r.1.Target.toArray⟩, .int .i64 r.1.Dev], .int .i64 r.2.1, .int .i64 r.2.2] ∧ St w noF m m' [] w' ∧ SlI rI64 m' Az_0_9 cz_0_9 r.1.Words ∧ r.1.Target.length ≤ 9223372036854775807 := by
  unfold ref15_Decode at hf
  have H := St.start0 hm
  refine callsR Try.func32 (by kernel_rfl) (by kernel_rfl) ?_
  refine seg 2 [.op [0] 0, .co [1]] [(0, .slice A0_0 b.length c0_0), (1, .int .i64 at_)] (by kernel_rfl) ?_
  refine st (newS (some 4) (fun g => .pointer (some ⟨g, 0, none⟩)) [.int .i64 0, .int .i64 0, .int .i64 0, .int .i64 0, .int .i64 0, .int .i64 0, .int .i64 0, .int .i64 0, .int .i64 0, .slice none 0 0, .int .i64 0, .int .i64 0, .int .i64 0, .int .i64 0, .int .i64 0, .int .i64 0, .string ⟨([] : List UInt8).toArray⟩, .int .i64 0] 46 H (by kernel_rfl) ?_)
  intro g1 w1 H
  refine seg 9 [.op [1, 0, 0] 3, .co [1, 0, 1], .co [1, 1]] [(0, .slice A0_0 b.length c0_0), (1, .int .i64 at_), (4, .pointer (some (⟨g1, 0, none⟩))), (12, .bool (decide (at_ < 0)))] (by kernel_rfl) ?_
  rcases condT hf with ⟨hb4, hf⟩ | ⟨hb4, hf⟩
  · rw [hb4]
    have p4 := of_decide_eq_true hb4
    refine seg 10 [.op [1, 0, 1, 0, 0] 1, .co [1, 0, 1, 0, 1], .co [1, 1]] [(4, .pointer (some (⟨g1, 0, none⟩))), (18, .agg #[.int .i64 0, .int .i64 0, .int .i64 0, .int .i64 0, .int .i64 0, .int .i64 0, .int .i64 0, .int .i64 0, .int .i64 0, .slice none 0 0, .int .i64 0, .int .i64 0, .int .i64 0, .int .i64 0, .int .i64 0, .int .i64 0, .string ⟨([] : List UInt8).toArray⟩, .int .i64 0])] (by kernel_rfl) ?_
    refine st (stAggS none 46 0 g1 0 [.int .i64 0, .int .i64 0, .int .i64 0, .int .i64 0, .int .i64 0, .int .i64 0, .int .i64 0, .int .i64 0, .int .i64 0, .slice none 0 0, .int .i64 0, .int .i64 0, .int .i64 0, .int .i64 0, .int .i64 0, .int .i64 0, .string ⟨([] : List UInt8).toArray⟩, .int .i64 0] [.int .i64 0, .int .i64 0, .int .i64 0, .int .i64 0, .int .i64 0, .int .i64 0, .int .i64 0, .int .i64 0, .int .i64 0, .slice none 0 0, .int .i64 0, .int .i64 0, .int .i64 0, .int .i64 0, .int .i64 0, .int .i64 0, .string ⟨([] : List UInt8).toArray⟩, .int .i64 0] [.int .i64 0, .int .i64 0, .int .i64 0, .int .i64 0, .int .i64 0, .int .i64 0, .int .i64 0, .int .i64 0, .int .i64 0, .slice none 0 0, .int .i64 0, .int .i64 0, .int .i64 0, .int .i64 0, .int .i64 0, .int .i64 0, .string ⟨([] : List UInt8).toArray⟩, .int .i64 0] 46 H rfl (by kernel_rfl) (by kernel_rfl) (by rfl) (of_decide_eq_true rfl) rfl ?_)
    intro w5 H
    refine seg 3 [.co [1, 0, 1, 0, 1], .co [1, 1]] [(4, .pointer (some (⟨g1, 0, none⟩))), (5, .int .i64 0), (6, .int .i64 9)] (by kernel_rfl) ?_
    refine retC [.agg #[.int .i64 0, .int .i64 0, .int .i64 0, .int .i64 0, .int .i64 0, .int .i64 0, .int .i64 0, .int .i64 0, .int .i64 0, .slice none 0 0, .int .i64 0, .int .i64 0, .int .i64 0, .int .i64 0, .int .i64 0, .int .i64 0, .string ⟨([] : List UInt8).toArray⟩, .int .i64 0], .int .i64 0, .int .i64 9] (by kernel_rfl) ⟨⟨_, rfl, ldv_agg 46 (⟨g1, 0, none⟩) [.int .i64 0, .int .i64 0, .int .i64 0, .int .i64 0, .int .i64 0, .int .i64 0, .int .i64 0, .int .i64 0, .int .i64 0, .slice none 0 0, .int .i64 0, .int .i64 0, .int .i64 0, .int .i64 0, .int .i64 0, .int .i64 0, .string ⟨([] : List UInt8).toArray⟩, .int .i64 0] (by kernel_rfl) (H.cellsB 0 rfl (by rfl))⟩, rfl, rfl, trivial⟩ ?_
    obtain rfl : (({ Kind := 0, Mode := 0, Uid := 0, Gid := 0, Time := 0, Links := 0, Attrs := 0, Size := 0, Start := 0, Words := [], Frag := 0, Off := 0, Tail := 0, Dir := 0, Bytes := 0, Parent := 0, Target := ([] : List UInt8), Dev := 0 } : TApiInode), 0, 9) = r := (Option.some.inj hf)
    exact ⟨_, rfl, none, 0, m, rfl, (St.takeN 0 H), (SlI.nil _ _), (Nat.le_of_ble_eq_true rfl)⟩
  · rw [hb4]
    have p4 := of_decide_eq_false hb4
    refine seg 6 [.co [1, 0, 1], .co [1, 1]] [(0, .slice A0_0 b.length c0_0), (1, .int .i64 at_), (4, .pointer (some (⟨g1, 0, none⟩))), (17, .bool (decide (at_ > (b.length : Int))))] (by kernel_rfl) ?_
    rcases condT hf with ⟨hb8, hf⟩ | ⟨hb8, hf⟩
    · rw [hb8]
      have p8 := of_decide_eq_true hb8
      refine seg 4 [.op [1, 0, 1, 0, 0] 1, .co [1, 0, 1, 0, 1], .co [1, 1]] [(4, .pointer (some (⟨g1, 0, none⟩))), (18, .agg #[.int .i64 0, .int .i64 0, .int .i64 0, .int .i64 0, .int .i64 0, .int .i64 0, .int .i64 0, .int .i64 0, .int .i64 0, .slice none 0 0, .int .i64 0, .int .i64 0, .int .i64 0, .int .i64 0, .int .i64 0, .int .i64 0, .string ⟨([] : List UInt8).toArray⟩, .int .i64 0])] (by kernel_rfl) ?_
      replace H : St w noF m m [blkI g1 [.int .i64 0, .int .i64 0, .int .i64 0, .int .i64 0, .int .i64 0, .int .i64 0, .int .i64 0, .int .i64 0, .int .i64 0, .slice none 0 0, .int .i64 0, .int .i64 0, .int .i64 0, .int .i64 0, .int .i64 0, .int .i64 0, .string ⟨([] : List UInt8).toArray⟩, .int .i64 0] 46] w1 := H
      refine st (stAggS none 46 0 g1 0 [.int .i64 0, .int .i64 0, .int .i64 0, .int .i64 0, .int .i64 0, .int .i64 0, .int .i64 0, .int .i64 0, .int .i64 0, .slice none 0 0, .int .i64 0, .int .i64 0, .int .i64 0, .int .i64 0, .int .i64 0, .int .i64 0, .string ⟨([] : List UInt8).toArray⟩, .int .i64 0] [.int .i64 0, .int .i64 0, .int .i64 0, .int .i64 0, .int .i64 0, .int .i64 0, .int .i64 0, .int .i64 0, .int .i64 0, .slice none 0 0, .int .i64 0, .int .i64 0, .int .i64 0, .int .i64 0, .int .i64 0, .int .i64 0, .string ⟨([] : List UInt8).toArray⟩, .int .i64 0] [.int .i64 0, .int .i64 0, .int .i64 0, .int .i64 0, .int .i64 0, .int .i64 0, .int .i64 0, .int .i64 0, .int .i64 0, .slice none 0 0, .int .i64 0, .int .i64 0, .int .i64 0, .int .i64 0, .int .i64 0, .int .i64 0, .string ⟨([] : List UInt8).toArray⟩, .int .i64 0] 46 H rfl (by kernel_rfl) (by kernel_rfl) (by rfl) (of_decide_eq_true rfl) rfl ?_)
      intro w9 H
      refine seg 3 [.co [1, 0, 1, 0, 1], .co [1, 1]] [(4, .pointer (some (⟨g1, 0, none⟩))), (5, .int .i64 0), (6, .int .i64 9)] (by kernel_rfl) ?_
      refine retC [.agg #[.int .i64 0, .int .i64 0, .int .i64 0, .int .i64 0, .int .i64 0, .int .i64 0, .int .i64 0, .int .i64 0, .int .i64 0, .slice none 0 0, .int .i64 0, .int .i64 0, .int .i64 0, .int .i64 0, .int .i64 0, .int .i64 0, .string ⟨([] : List UInt8).toArray⟩, .int .i64 0], .int .i64 0, .int .i64 9] (by kernel_rfl) ⟨⟨_, rfl, ldv_agg 46 (⟨g1, 0, none⟩) [.int .i64 0, .int .i64 0, .int .i64 0, .int .i64 0, .int .i64 0, .int .i64 0, .int .i64 0, .int .i64 0, .int .i64 0, .slice none 0 0, .int .i64 0, .int .i64 0, .int .i64 0, .int .i64 0, .int .i64 0, .int .i64 0, .string ⟨([] : List UInt8).toArray⟩, .int .i64 0] (by kernel_rfl) (H.cellsB 0 rfl (by rfl))⟩, rfl, rfl, trivial⟩ ?_
      obtain rfl : (({ Kind := 0, Mode := 0, Uid := 0, Gid := 0, Time := 0, Links := 0, Attrs := 0, Size := 0, Start := 0, Words := [], Frag := 0, Off := 0, Tail := 0, Dir := 0, Bytes := 0, Parent := 0, Target := ([] : List UInt8), Dev := 0 } : TApiInode), 0, 9) = r := (Option.some.inj hf)
      exact ⟨_, rfl, none, 0, m, rfl, (St.takeN 0 H), (SlI.nil _ _), (Nat.le_of_ble_eq_true rfl)⟩
    · rw [hb8]
      have p8 := of_decide_eq_false hb8
      refine seg 6 [.op [1, 1, 0] 2, .co [1, 1, 1]] [(0, .slice A0_0 b.length c0_0), (1, .int .i64 at_), (4, .pointer (some (⟨g1, 0, none⟩))), (20, .slice A0_0 b.length c0_0), (21, .int .i64 at_)] (by kernel_rfl) ?_
      obtain ⟨guess, h_guess, hf⟩ := bindE hf
      refine st (callR (some 22) 69 #[.slice A0_0 b.length c0_0, .int .i64 at_] Try.call69 (ref15_guess_c H.has b A0_0 c0_0 s0_0 at_ h_guess) (by kernel_rfl) ?_)
      rintro _ w10 ⟨A10_0_9, c10_0_9, mk10, rfl, hS10, hs10_0, hl10_0⟩
      have hsub10 := hS10.sub
      replace H := H.call0 hS10
      refine seg 3 [.op [1, 1, 0] 6, .co [1, 1, 1]] [(0, .slice A0_0 b.length c0_0), (1, .int .i64 at_), (4, .pointer (some (⟨g1, 0, none⟩))), (23, .agg #[.int .i64 guess.1.Kind, .int .i64 guess.1.Mode, .int .i64 guess.1.Uid, .int .i64 guess.1.Gid, .int .i64 guess.1.Time, .int .i64 guess.1.Links, .int .i64 guess.1.Attrs, .int .i64 guess.1.Size, .int .i64 guess.1.Start, .slice A10_0_9 guess.1.Words.length c10_0_9, .int .i64 guess.1.Frag, .int .i64 guess.1.Off, .int .i64 guess.1.Tail, .int .i64 guess.1.Dir, .int .i64 guess.1.Bytes, .int .i64 guess.1.Parent, .string ⟨guess.1.Target.toArray⟩, .int .i64 guess.1.Dev]), (24, .bool guess.2)] (by kernel_rfl) ?_
      refine st (newS (some 7) (fun g => .pointer (some ⟨g, 0, none⟩)) [.int .i64 0, .int .i64 0, .int .i64 0, .int .i64 0, .int .i64 0, .int .i64 0, .int .i64 0, .int .i64 0, .int .i64 0, .slice none 0 0, .int .i64 0, .int .i64 0, .int .i64 0, .int .i64 0, .int .i64 0, .int .i64 0, .string ⟨([] : List UInt8).toArray⟩, .int .i64 0] 46 H (by kernel_rfl) ?_)
      intro g11 w11 H
      refine st (stAggS none 46 0 g11 0 [.int .i64 guess.1.Kind, .int .i64 guess.1.Mode, .int .i64 guess.1.Uid, .int .i64 guess.1.Gid, .int .i64 guess.1.Time, .int .i64 guess.1.Links, .int .i64 guess.1.Attrs, .int .i64 guess.1.Size, .int .i64 guess.1.Start, .slice A10_0_9 guess.1.Words.length c10_0_9, .int .i64 guess.1.Frag, .int .i64 guess.1.Off, .int .i64 guess.1.Tail, .int .i64 guess.1.Dir, .int .i64 guess.1.Bytes, .int .i64 guess.1.Parent, .string ⟨guess.1.Target.toArray⟩, .int .i64 guess.1.Dev] [.int .i64 0, .int .i64 0, .int .i64 0, .int .i64 0, .int .i64 0, .int .i64 0, .int .i64 0, .int .i64 0, .int .i64 0, .slice none 0 0, .int .i64 0, .int .i64 0, .int .i64 0, .int .i64 0, .int .i64 0, .int .i64 0, .string ⟨([] : List UInt8).toArray⟩, .int .i64 0] [.int .i64 guess.1.Kind, .int .i64 guess.1.Mode, .int .i64 guess.1.Uid, .int .i64 guess.1.Gid, .int .i64 guess.1.Time, .int .i64 guess.1.Links, .int .i64 guess.1.Attrs, .int .i64 guess.1.Size, .int .i64 guess.1.Start, .slice A10_0_9 guess.1.Words.length c10_0_9, .int .i64 guess.1.Frag, .int .i64 guess.1.Off, .int .i64 guess.1.Tail, .int .i64 guess.1.Dir, .int .i64 guess.1.Bytes, .int .i64 guess.1.Parent, .string ⟨guess.1.Target.toArray⟩, .int .i64 guess.1.Dev] 46 H rfl (by kernel_rfl) (by kernel_rfl) (by rfl) (of_decide_eq_true rfl) rfl ?_)
      intro w12 H
      refine seg 8 [.co [1, 1, 1, 0, 1], .co [1, 1, 1, 1]] [(0, .slice A0_0 b.length c0_0), (1, .int .i64 at_), (4, .pointer (some (⟨g1, 0, none⟩))), (7, .pointer (some (⟨g11, 0, none⟩))), (8, .bool guess.2), (26, .bool (!guess.2))] (by kernel_rfl) ?_
      obtain ⟨y41, hp41, hf⟩ := bindE hf
      refine joinR 0 (fun (x : Int × Int × Int × Int × Int × Int × Int × Int × Int × (List Int) × Int × Int × Int × Int × Int × Int × (List UInt8) × Int × Bool × Option Addr × Nat × Mem) => [(0, .slice A0_0 b.length c0_0), (1, .int .i64 at_), (4, .pointer (some (⟨g1, 0, none⟩))), (7, .pointer (some (⟨g11, 0, none⟩))), (8, .bool x.2.2.2.2.2.2.2.2.2.2.2.2.2.2.2.2.2.2.1)]) (fun (x : Int × Int × Int × Int × Int × Int × Int × Int × Int × (List Int) × Int × Int × Int × Int × Int × Int × (List UInt8) × Int × Bool × Option Addr × Nat × Mem) (wj41 : World) => y41 = (x.1, x.2.1, x.2.2.1, x.2.2.2.1, x.2.2.2.2.1, x.2.2.2.2.2.1, x.2.2.2.2.2.2.1, x.2.2.2.2.2.2.2.1, x.2.2.2.2.2.2.2.2.1, x.2.2.2.2.2.2.2.2.2.1, x.2.2.2.2.2.2.2.2.2.2.1, x.2.2.2.2.2.2.2.2.2.2.2.1, x.2.2.2.2.2.2.2.2.2.2.2.2.1, x.2.2.2.2.2.2.2.2.2.2.2.2.2.1, x.2.2.2.2.2.2.2.2.2.2.2.2.2.2.1, x.2.2.2.2.2.2.2.2.2.2.2.2.2.2.2.1, x.2.2.2.2.2.2.2.2.2.2.2.2.2.2.2.2.1, x.2.2.2.2.2.2.2.2.2.2.2.2.2.2.2.2.2.1, x.2.2.2.2.2.2.2.2.2.2.2.2.2.2.2.2.2.2.1) ∧ St w noF m x.2.2.2.2.2.2.2.2.2.2.2.2.2.2.2.2.2.2.2.2.2 [blkI g1 [.int .i64 0, .int .i64 0, .int .i64 0, .int .i64 0, .int .i64 0, .int .i64 0, .int .i64 0, .int .i64 0, .int .i64 0, .slice none 0 0, .int .i64 0, .int .i64 0, .int .i64 0, .int .i64 0, .int .i64 0, .int .i64 0, .string ⟨([] : List UInt8).toArray⟩, .int .i64 0] 46, blkI g11 [.int .i64 x.1, .int .i64 x.2.1, .int .i64 x.2.2.1, .int .i64 x.2.2.2.1, .int .i64 x.2.2.2.2.1, .int .i64 x.2.2.2.2.2.1, .int .i64 x.2.2.2.2.2.2.1, .int .i64 x.2.2.2.2.2.2.2.1, .int .i64 x.2.2.2.2.2.2.2.2.1, .slice (x.2.2.2.2.2.2.2.2.2.2.2.2.2.2.2.2.2.2.2.1) x.2.2.2.2.2.2.2.2.2.1.length (x.2.2.2.2.2.2.2.2.2.2.2.2.2.2.2.2.2.2.2.2.1), .int .i64 x.2.2.2.2.2.2.2.2.2.2.1, .int .i64 x.2.2.2.2.2.2.2.2.2.2.2.1, .int .i64 x.2.2.2.2.2.2.2.2.2.2.2.2.1, .int .i64 x.2.2.2.2.2.2.2.2.2.2.2.2.2.1, .int .i64 x.2.2.2.2.2.2.2.2.2.2.2.2.2.2.1, .int .i64 x.2.2.2.2.2.2.2.2.2.2.2.2.2.2.2.1, .string ⟨x.2.2.2.2.2.2.2.2.2.2.2.2.2.2.2.2.1.toArray⟩, .int .i64 x.2.2.2.2.2.2.2.2.2.2.2.2.2.2.2.2.2.1] 46] wj41 ∧ Sub mk10 x.2.2.2.2.2.2.2.2.2.2.2.2.2.2.2.2.2.2.2.2.2 ∧ SlI rI64 x.2.2.2.2.2.2.2.2.2.2.2.2.2.2.2.2.2.2.2.2.2 x.2.2.2.2.2.2.2.2.2.2.2.2.2.2.2.2.2.2.2.1 x.2.2.2.2.2.2.2.2.2.2.2.2.2.2.2.2.2.2.2.2.1 x.2.2.2.2.2.2.2.2.2.1 ∧ x.2.2.2.2.2.2.2.2.2.2.2.2.2.2.2.2.1.length ≤ 9223372036854775807) (by kernel_rfl) ?_ ?_
      · rcases condT hp41 with ⟨hb43, hp41⟩ | ⟨hb43, hp41⟩
        · rw [hb43]
          refine seg 2 [.le 0, .co [1, 1, 1, 1]] [(0, .slice A0_0 b.length c0_0), (1, .int .i64 at_), (4, .pointer (some (⟨g1, 0, none⟩))), (7, .pointer (some (⟨g11, 0, none⟩))), (8, .bool true)] (by kernel_rfl) ?_
          refine leJ (guess.1.Kind, guess.1.Mode, guess.1.Uid, guess.1.Gid, guess.1.Time, guess.1.Links, guess.1.Attrs, guess.1.Size, guess.1.Start, guess.1.Words, guess.1.Frag, guess.1.Off, guess.1.Tail, guess.1.Dir, guess.1.Bytes, guess.1.Parent, guess.1.Target, guess.1.Dev, true, A10_0_9, c10_0_9, mk10) ⟨(Option.some.inj hp41).symm, (H.pull 1 rfl), (Sub.refl _), hs10_0, hl10_0⟩ (by kernel_rfl)
        · rw [hb43]
          refine seg 4 [.op [1, 1, 1, 0, 1, 0] 2, .le 0, .co [1, 1, 1, 1]] [(0, .slice A0_0 b.length c0_0), (1, .int .i64 at_), (4, .pointer (some (⟨g1, 0, none⟩))), (7, .pointer (some (⟨g11, 0, none⟩))), (28, .slice A0_0 b.length c0_0), (29, .int .i64 at_)] (by kernel_rfl) ?_
          obtain ⟨short, h_short, hp41⟩ := bindE hp41
          refine st (callR (some 30) 70 #[.slice A0_0 b.length c0_0, .int .i64 at_] Try.call70 (ref15_short_c H.has b A0_0 c0_0 (s0_0.mono hsub10) at_ h_short) (by kernel_rfl) ?_)
          rintro _ w44 ⟨A44_0_9, c44_0_9, mk44, rfl, hS44, hs44_0, hl44_0⟩
          have hsub44 := hS44.sub
          replace H := H.call0 hS44
          refine seg 3 [.op [1, 1, 1, 0, 1, 0] 6, .le 0, .co [1, 1, 1, 1]] [(0, .slice A0_0 b.length c0_0), (1, .int .i64 at_), (4, .pointer (some (⟨g1, 0, none⟩))), (7, .pointer (some (⟨g11, 0, none⟩))), (31, .agg #[.int .i64 short.1.Kind, .int .i64 short.1.Mode, .int .i64 short.1.Uid, .int .i64 short.1.Gid, .int .i64 short.1.Time, .int .i64 short.1.Links, .int .i64 short.1.Attrs, .int .i64 short.1.Size, .int .i64 short.1.Start, .slice A44_0_9 short.1.Words.length c44_0_9, .int .i64 short.1.Frag, .int .i64 short.1.Off, .int .i64 short.1.Tail, .int .i64 short.1.Dir, .int .i64 short.1.Bytes, .int .i64 short.1.Parent, .string ⟨short.1.Target.toArray⟩, .int .i64 short.1.Dev]), (32, .bool short.2)] (by kernel_rfl) ?_
          refine st (stAggS none 46 0 g11 0 [.int .i64 short.1.Kind, .int .i64 short.1.Mode, .int .i64 short.1.Uid, .int .i64 short.1.Gid, .int .i64 short.1.Time, .int .i64 short.1.Links, .int .i64 short.1.Attrs, .int .i64 short.1.Size, .int .i64 short.1.Start, .slice A44_0_9 short.1.Words.length c44_0_9, .int .i64 short.1.Frag, .int .i64 short.1.Off, .int .i64 short.1.Tail, .int .i64 short.1.Dir, .int .i64 short.1.Bytes, .int .i64 short.1.Parent, .string ⟨short.1.Target.toArray⟩, .int .i64 short.1.Dev] [.int .i64 guess.1.Kind, .int .i64 guess.1.Mode, .int .i64 guess.1.Uid, .int .i64 guess.1.Gid, .int .i64 guess.1.Time, .int .i64 guess.1.Links, .int .i64 guess.1.Attrs, .int .i64 guess.1.Size, .int .i64 guess.1.Start, .slice A10_0_9 guess.1.Words.length c10_0_9, .int .i64 guess.1.Frag, .int .i64 guess.1.Off, .int .i64 guess.1.Tail, .int .i64 guess.1.Dir, .int .i64 guess.1.Bytes, .int .i64 guess.1.Parent, .string ⟨guess.1.Target.toArray⟩, .int .i64 guess.1.Dev] [.int .i64 short.1.Kind, .int .i64 short.1.Mode, .int .i64 short.1.Uid, .int .i64 short.1.Gid, .int .i64 short.1.Time, .int .i64 short.1.Links, .int .i64 short.1.Attrs, .int .i64 short.1.Size, .int .i64 short.1.Start, .slice A44_0_9 short.1.Words.length c44_0_9, .int .i64 short.1.Frag, .int .i64 short.1.Off, .int .i64 short.1.Tail, .int .i64 short.1.Dir, .int .i64 short.1.Bytes, .int .i64 short.1.Parent, .string ⟨short.1.Target.toArray⟩, .int .i64 short.1.Dev] 46 H rfl (by kernel_rfl) (by kernel_rfl) (by rfl) (of_decide_eq_true rfl) rfl ?_)
          intro w45 H
          refine seg 2 [.le 0, .co [1, 1, 1, 1]] [(0, .slice A0_0 b.length c0_0), (1, .int .i64 at_), (4, .pointer (some (⟨g1, 0, none⟩))), (7, .pointer (some (⟨g11, 0, none⟩))), (8, .bool short.2)] (by kernel_rfl) ?_
          refine leJ (short.1.Kind, short.1.Mode, short.1.Uid, short.1.Gid, short.1.Time, short.1.Links, short.1.Attrs, short.1.Size, short.1.Start, short.1.Words, short.1.Frag, short.1.Off, short.1.Tail, short.1.Dir, short.1.Bytes, short.1.Parent, short.1.Target, short.1.Dev, short.2, A44_0_9, c44_0_9, mk44) ⟨(Option.some.inj hp41).symm, (H.pull 1 rfl), hsub44, hs44_0, hl44_0⟩ (by kernel_rfl)
      rintro ⟨Kind, Mode, Uid, Gid, Time, Links, Attrs, Size, Start, Words, Frag, Off, Tail, Dir, Bytes, Parent, Target, Dev, ok, A_1_42, c_2_42, mm42⟩ wj41 ⟨hy41, H, hsub42, hs42_0, hl42_0⟩
      try dsimp only at hy41
      try dsimp only at H
      try dsimp only at hsub42
      try dsimp only at hs42_0
      try dsimp only at hl42_0
      rw [hy41] at hf
      try dsimp only at hf
      refine seg 6 [.op [1, 1, 1, 1, 0, 0] 3, .co [1, 1, 1, 1, 0, 1], .co [1, 1, 1, 1, 1]] [(0, .slice A0_0 b.length c0_0), (1, .int .i64 at_), (4, .pointer (some (⟨g1, 0, none⟩))), (7, .pointer (some (⟨g11, 0, none⟩))), (35, .bool (!ok))] (by kernel_rfl) ?_
      rcases condT hf with ⟨hb46, hf⟩ | ⟨hb46, hf⟩
      · rw [hb46]
        replace H : St w noF m mm42 [blkI g1 [.int .i64 0, .int .i64 0, .int .i64 0, .int .i64 0, .int .i64 0, .int .i64 0, .int .i64 0, .int .i64 0, .int .i64 0, .slice none 0 0, .int .i64 0, .int .i64 0, .int .i64 0, .int .i64 0, .int .i64 0, .int .i64 0, .string ⟨([] : List UInt8).toArray⟩, .int .i64 0] 46, blkI g11 [.int .i64 Kind, .int .i64 Mode, .int .i64 Uid, .int .i64 Gid, .int .i64 Time, .int .i64 Links, .int .i64 Attrs, .int .i64 Size, .int .i64 Start, .slice A_1_42 Words.length c_2_42, .int .i64 Frag, .int .i64 Off, .int .i64 Tail, .int .i64 Dir, .int .i64 Bytes, .int .i64 Parent, .string ⟨Target.toArray⟩, .int .i64 Dev] 46] wj41 := H
        refine st (ldAggR (some 36) 46 (⟨g11, 0, none⟩) [.int .i64 Kind, .int .i64 Mode, .int .i64 Uid, .int .i64 Gid, .int .i64 Time, .int .i64 Links, .int .i64 Attrs, .int .i64 Size, .int .i64 Start, .slice A_1_42 Words.length c_2_42, .int .i64 Frag, .int .i64 Off, .int .i64 Tail, .int .i64 Dir, .int .i64 Bytes, .int .i64 Parent, .string ⟨Target.toArray⟩, .int .i64 Dev] (by kernel_rfl) (by kernel_rfl) (H.cellsB 1 rfl (by rfl)) ?_)
        obtain ⟨check, h_check, hf⟩ := bindE hf
        refine st (callR (some 37) 25 #[.agg #[.int .i64 Kind, .int .i64 Mode, .int .i64 Uid, .int .i64 Gid, .int .i64 Time, .int .i64 Links, .int .i64 Attrs, .int .i64 Size, .int .i64 Start, .slice A_1_42 Words.length c_2_42, .int .i64 Frag, .int .i64 Off, .int .i64 Tail, .int .i64 Dir, .int .i64 Bytes, .int .i64 Parent, .string ⟨Target.toArray⟩, .int .i64 Dev]] Try.call25 (ref15_Check_c H.has ({ Kind := Kind, Mode := Mode, Uid := Uid, Gid := Gid, Time := Time, Links := Links, Attrs := Attrs, Size := Size, Start := Start, Words := Words, Frag := Frag, Off := Off, Tail := Tail, Dir := Dir, Bytes := Bytes, Parent := Parent, Target := Target, Dev := Dev } : TApiInode) A_1_42 c_2_42 hs42_0 hl42_0 h_check) (by kernel_rfl) ?_)
        rintro _ w47 ⟨rfl, hx47⟩
        replace H := H.ex hx47
        refine seg 3 [.co [1, 1, 1, 1, 0, 1], .co [1, 1, 1, 1, 1]] [(0, .slice A0_0 b.length c0_0), (1, .int .i64 at_), (4, .pointer (some (⟨g1, 0, none⟩))), (7, .pointer (some (⟨g11, 0, none⟩))), (39, .bool (check != 0))] (by kernel_rfl) ?_
        rcases condT hf with ⟨hb48, hf⟩ | ⟨hb48, hf⟩
        · rw [hb48]
          refine seg 4 [.op [1, 1, 1, 1, 0, 1, 0, 0] 1, .co [1, 1, 1, 1, 0, 1, 0, 1], .co [1, 1, 1, 1, 1]] [(4, .pointer (some (⟨g1, 0, none⟩))), (40, .agg #[.int .i64 0, .int .i64 0, .int .i64 0, .int .i64 0, .int .i64 0, .int .i64 0, .int .i64 0, .int .i64 0, .int .i64 0, .slice none 0 0, .int .i64 0, .int .i64 0, .int .i64 0, .int .i64 0, .int .i64 0, .int .i64 0, .string ⟨([] : List UInt8).toArray⟩, .int .i64 0])] (by kernel_rfl) ?_
          refine st (stAggS none 46 0 g1 0 [.int .i64 0, .int .i64 0, .int .i64 0, .int .i64 0, .int .i64 0, .int .i64 0, .int .i64 0, .int .i64 0, .int .i64 0, .slice none 0 0, .int .i64 0, .int .i64 0, .int .i64 0, .int .i64 0, .int .i64 0, .int .i64 0, .string ⟨([] : List UInt8).toArray⟩, .int .i64 0] [.int .i64 0, .int .i64 0, .int .i64 0, .int .i64 0, .int .i64 0, .int .i64 0, .int .i64 0, .int .i64 0, .int .i64 0, .slice none 0 0, .int .i64 0, .int .i64 0, .int .i64 0, .int .i64 0, .int .i64 0, .int .i64 0, .string ⟨([] : List UInt8).toArray⟩, .int .i64 0] [.int .i64 0, .int .i64 0, .int .i64 0, .int .i64 0, .int .i64 0, .int .i64 0, .int .i64 0, .int .i64 0, .int .i64 0, .slice none 0 0, .int .i64 0, .int .i64 0, .int .i64 0, .int .i64 0, .int .i64 0, .int .i64 0, .string ⟨([] : List UInt8).toArray⟩, .int .i64 0] 46 H rfl (by kernel_rfl) (by kernel_rfl) (by rfl) (of_decide_eq_true rfl) rfl ?_)
          intro w49 H
          refine seg 3 [.co [1, 1, 1, 1, 0, 1, 0, 1], .co [1, 1, 1, 1, 1]] [(4, .pointer (some (⟨g1, 0, none⟩))), (5, .int .i64 0), (6, .int .i64 6)] (by kernel_rfl) ?_
          refine retC [.agg #[.int .i64 0, .int .i64 0, .int .i64 0, .int .i64 0, .int .i64 0, .int .i64 0, .int .i64 0, .int .i64 0, .int .i64 0, .slice none 0 0, .int .i64 0, .int .i64 0, .int .i64 0, .int .i64 0, .int .i64 0, .int .i64 0, .string ⟨([] : List UInt8).toArray⟩, .int .i64 0], .int .i64 0, .int .i64 6] (by kernel_rfl) ⟨⟨_, rfl, ldv_agg 46 (⟨g1, 0, none⟩) [.int .i64 0, .int .i64 0, .int .i64 0, .int .i64 0, .int .i64 0, .int .i64 0, .int .i64 0, .int .i64 0, .int .i64 0, .slice none 0 0, .int .i64 0, .int .i64 0, .int .i64 0, .int .i64 0, .int .i64 0, .int .i64 0, .string ⟨([] : List UInt8).toArray⟩, .int .i64 0] (by kernel_rfl) (H.cellsB 0 rfl (by rfl))⟩, rfl, rfl, trivial⟩ ?_
          obtain rfl : (({ Kind := 0, Mode := 0, Uid := 0, Gid := 0, Time := 0, Links := 0, Attrs := 0, Size := 0, Start := 0, Words := [], Frag := 0, Off := 0, Tail := 0, Dir := 0, Bytes := 0, Parent := 0, Target := ([] : List UInt8), Dev := 0 } : TApiInode), 0, 6) = r := (Option.some.inj hf)
          exact ⟨_, rfl, none, 0, mm42, rfl, (St.takeN 0 H), (SlI.nil _ _), (Nat.le_of_ble_eq_true rfl)⟩
        · rw [hb48]
          refine seg 4 [.op [1, 1, 1, 1, 1, 0] 0, .co [1, 1, 1, 1, 1, 1]] [(0, .slice A0_0 b.length c0_0), (1, .int .i64 at_), (4, .pointer (some (⟨g1, 0, none⟩))), (7, .pointer (some (⟨g11, 0, none⟩)))] (by kernel_rfl) ?_
          refine st (ldAggR (some 41) 46 (⟨g11, 0, none⟩) [.int .i64 Kind, .int .i64 Mode, .int .i64 Uid, .int .i64 Gid, .int .i64 Time, .int .i64 Links, .int .i64 Attrs, .int .i64 Size, .int .i64 Start, .slice A_1_42 Words.length c_2_42, .int .i64 Frag, .int .i64 Off, .int .i64 Tail, .int .i64 Dir, .int .i64 Bytes, .int .i64 Parent, .string ⟨Target.toArray⟩, .int .i64 Dev] (by kernel_rfl) (by kernel_rfl) (H.cellsB 1 rfl (by rfl)) ?_)
          obtain ⟨bytes, h_bytes, hf⟩ := bindE hf
          refine st (callR (some 42) 30 #[.agg #[.int .i64 Kind, .int .i64 Mode, .int .i64 Uid, .int .i64 Gid, .int .i64 Time, .int .i64 Links, .int .i64 Attrs, .int .i64 Size, .int .i64 Start, .slice A_1_42 Words.length c_2_42, .int .i64 Frag, .int .i64 Off, .int .i64 Tail, .int .i64 Dir, .int .i64 Bytes, .int .i64 Parent, .string ⟨Target.toArray⟩, .int .i64 Dev]] Try.call30 (ref15_Bytes_c H.has ({ Kind := Kind, Mode := Mode, Uid := Uid, Gid := Gid, Time := Time, Links := Links, Attrs := Attrs, Size := Size, Start := Start, Words := Words, Frag := Frag, Off := Off, Tail := Tail, Dir := Dir, Bytes := Bytes, Parent := Parent, Target := Target, Dev := Dev } : TApiInode) A_1_42 c_2_42 hs42_0 hl42_0 h_bytes) (by kernel_rfl) ?_)
          rintro _ w50 ⟨A50_0, c50_0, mk50, rfl, hS50⟩
          have hsub50 := hS50.sub
          replace H := H.call0 hS50
          refine seg 4 [.co [1, 1, 1, 1, 1, 1, 0, 0], .co [1, 1, 1, 1, 1, 1, 0, 1], .co [1, 1, 1, 1, 1, 1, 1]] [(0, .slice A0_0 b.length c0_0), (1, .int .i64 at_), (4, .pointer (some (⟨g1, 0, none⟩))), (7, .pointer (some (⟨g11, 0, none⟩))), (9, .slice A50_0 bytes.length c50_0)] (by kernel_rfl) ?_
          rcases condT hf with ⟨hb51, hf⟩ | ⟨hb51, hf⟩
          · have p51 := of_decide_eq_true hb51
            have hst : statB (bodyOf Try.f32) [1, 1, 1, 1, 1, 1, 0, 0] = true := by kernel_rfl
            refine drawS (fun w' => Has mk50 w' ∧ w'.heap[g1]? = some (.cells [.int .i64 0, .int .i64 0, .int .i64 0, .int .i64 0, .int .i64 0, .int .i64 0, .int .i64 0, .int .i64 0, .int .i64 0, .slice none 0 0, .int .i64 0, .int .i64 0, .int .i64 0, .int .i64 0, .int .i64 0, .int .i64 0, .string ⟨([] : List UInt8).toArray⟩, .int .i64 0].toArray 46 (0, 0)) ∧ w'.heap[g11]? = some (.cells [.int .i64 Kind, .int .i64 Mode, .int .i64 Uid, .int .i64 Gid, .int .i64 Time, .int .i64 Links, .int .i64 Attrs, .int .i64 Size, .int .i64 Start, .slice A_1_42 Words.length c_2_42, .int .i64 Frag, .int .i64 Off, .int .i64 Tail, .int .i64 Dir, .int .i64 Bytes, .int .i64 Parent, .string ⟨Target.toArray⟩, .int .i64 Dev].toArray 46 (0, 0))) H (by kernel_rfl) (by kernel_rfl) ?_
            intro w52 H
            refine segD2 hst [0, 1, 2, 3, 4, 5] [0, 1, 2, 3, 4, 5] [(0, .slice A0_0 b.length c0_0), (1, .int .i64 at_), (4, .pointer (some (⟨g1, 0, none⟩))), (7, .pointer (some (⟨g11, 0, none⟩))), (9, .slice A50_0 bytes.length c50_0), (44, .int .i64 (bytes.length : Int)), (48, .int .i64 (IntKind.i64.wrap ((b.length : Int) - at_)))] (by kernel_rfl) ?_
            have := (Nat.le_trans (H.rowCap 0 rfl).1 (H.rowCap 0 rfl).2)
            have := s0_0.bound
            rw [show IntKind.i64.wrap ((b.length : Int) - at_) = ((b.length : Int) - at_) from w64 (by omega)]
            refine segD2 hst [6] [0, 1, 2, 3, 4, 5, 6] [(0, .slice A0_0 b.length c0_0), (1, .int .i64 at_), (4, .pointer (some (⟨g1, 0, none⟩))), (7, .pointer (some (⟨g11, 0, none⟩))), (9, .slice A50_0 bytes.length c50_0), (49, .bool (decide ((bytes.length : Int) > ((b.length : Int) - at_))))] (by kernel_rfl) ?_
            rw [show (decide ((bytes.length : Int) > ((b.length : Int) - at_))) = true from hb51]
            refine segD2 hst [7, 8, 9, 10, 11, 12, 13, 14, 15, 16, 17, 18, 19] [0, 1, 2, 3, 4, 5, 6, 7, 8, 9, 10, 11, 12, 13, 14, 15, 16, 17, 18, 19] [(1, .int .i64 at_), (4, .pointer (some (⟨g1, 0, none⟩))), (7, .pointer (some (⟨g11, 0, none⟩))), (9, .slice A50_0 bytes.length c50_0), (62, .bool true)] (by kernel_rfl) ?_
            refine endD2 (by kernel_rfl) ⟨H.has, H.blk 1 rfl, H.blk 2 rfl⟩ ?_
            refine seg 4 [.op [1, 1, 1, 1, 1, 1, 0, 1, 0, 0] 1, .co [1, 1, 1, 1, 1, 1, 0, 1, 0, 1], .co [1, 1, 1, 1, 1, 1, 1]] [(4, .pointer (some (⟨g1, 0, none⟩))), (63, .agg #[.int .i64 0, .int .i64 0, .int .i64 0, .int .i64 0, .int .i64 0, .int .i64 0, .int .i64 0, .int .i64 0, .int .i64 0, .slice none 0 0, .int .i64 0, .int .i64 0, .int .i64 0, .int .i64 0, .int .i64 0, .int .i64 0, .string ⟨([] : List UInt8).toArray⟩, .int .i64 0])] (by kernel_rfl) ?_
            refine st (stAggS none 46 1 g1 0 [.int .i64 0, .int .i64 0, .int .i64 0, .int .i64 0, .int .i64 0, .int .i64 0, .int .i64 0, .int .i64 0, .int .i64 0, .slice none 0 0, .int .i64 0, .int .i64 0, .int .i64 0, .int .i64 0, .int .i64 0, .int .i64 0, .string ⟨([] : List UInt8).toArray⟩, .int .i64 0] [.int .i64 0, .int .i64 0, .int .i64 0, .int .i64 0, .int .i64 0, .int .i64 0, .int .i64 0, .int .i64 0, .int .i64 0, .slice none 0 0, .int .i64 0, .int .i64 0, .int .i64 0, .int .i64 0, .int .i64 0, .int .i64 0, .string ⟨([] : List UInt8).toArray⟩, .int .i64 0] [.int .i64 0, .int .i64 0, .int .i64 0, .int .i64 0, .int .i64 0, .int .i64 0, .int .i64 0, .int .i64 0, .int .i64 0, .slice none 0 0, .int .i64 0, .int .i64 0, .int .i64 0, .int .i64 0, .int .i64 0, .int .i64 0, .string ⟨([] : List UInt8).toArray⟩, .int .i64 0] 46 H rfl (by kernel_rfl) (by kernel_rfl) (by rfl) (of_decide_eq_true rfl) rfl ?_)
            intro w53 H
            refine seg 3 [.co [1, 1, 1, 1, 1, 1, 0, 1, 0, 1], .co [1, 1, 1, 1, 1, 1, 1]] [(4, .pointer (some (⟨g1, 0, none⟩))), (5, .int .i64 0), (6, .int .i64 6)] (by kernel_rfl) ?_
            refine retC [.agg #[.int .i64 0, .int .i64 0, .int .i64 0, .int .i64 0, .int .i64 0, .int .i64 0, .int .i64 0, .int .i64 0, .int .i64 0, .slice none 0 0, .int .i64 0, .int .i64 0, .int .i64 0, .int .i64 0, .int .i64 0, .int .i64 0, .string ⟨([] : List UInt8).toArray⟩, .int .i64 0], .int .i64 0, .int .i64 6] (by kernel_rfl) ⟨⟨_, rfl, ldv_agg 46 (⟨g1, 0, none⟩) [.int .i64 0, .int .i64 0, .int .i64 0, .int .i64 0, .int .i64 0, .int .i64 0, .int .i64 0, .int .i64 0, .int .i64 0, .slice none 0 0, .int .i64 0, .int .i64 0, .int .i64 0, .int .i64 0, .int .i64 0, .int .i64 0, .string ⟨([] : List UInt8).toArray⟩, .int .i64 0] (by kernel_rfl) (H.cellsB 1 rfl (by rfl))⟩, rfl, rfl, trivial⟩ ?_
            obtain rfl : (({ Kind := 0, Mode := 0, Uid := 0, Gid := 0, Time := 0, Links := 0, Attrs := 0, Size := 0, Start := 0, Words := [], Frag := 0, Off := 0, Tail := 0, Dir := 0, Bytes := 0, Parent := 0, Target := ([] : List UInt8), Dev := 0 } : TApiInode), 0, 6) = r := (Option.some.inj hf)
            exact ⟨_, rfl, none, 0, mk50, rfl, (St.takeN 0 H), (SlI.nil _ _), (Nat.le_of_ble_eq_true rfl)⟩
          · have p51 := of_decide_eq_false hb51
            obtain ⟨y_, h_y_, hf⟩ := bindE hf
            have hst : statB (bodyOf Try.f32) [1, 1, 1, 1, 1, 1, 0, 0] = true := by kernel_rfl
            refine drawS (fun w' => Has mk50 w' ∧ w'.heap[g1]? = some (.cells [.int .i64 0, .int .i64 0, .int .i64 0, .int .i64 0, .int .i64 0, .int .i64 0, .int .i64 0, .int .i64 0, .int .i64 0, .slice none 0 0, .int .i64 0, .int .i64 0, .int .i64 0, .int .i64 0, .int .i64 0, .int .i64 0, .string ⟨([] : List UInt8).toArray⟩, .int .i64 0].toArray 46 (0, 0)) ∧ w'.heap[g11]? = some (.cells [.int .i64 Kind, .int .i64 Mode, .int .i64 Uid, .int .i64 Gid, .int .i64 Time, .int .i64 Links, .int .i64 Attrs, .int .i64 Size, .int .i64 Start, .slice A_1_42 Words.length c_2_42, .int .i64 Frag, .int .i64 Off, .int .i64 Tail, .int .i64 Dir, .int .i64 Bytes, .int .i64 Parent, .string ⟨Target.toArray⟩, .int .i64 Dev].toArray 46 (0, 0))) H (by kernel_rfl) (by kernel_rfl) ?_
            intro w57 H
            refine segD2 hst [0, 1, 2, 3, 4, 5] [0, 1, 2, 3, 4, 5] [(0, .slice A0_0 b.length c0_0), (1, .int .i64 at_), (4, .pointer (some (⟨g1, 0, none⟩))), (7, .pointer (some (⟨g11, 0, none⟩))), (9, .slice A50_0 bytes.length c50_0), (44, .int .i64 (bytes.length : Int)), (48, .int .i64 (IntKind.i64.wrap ((b.length : Int) - at_)))] (by kernel_rfl) ?_
            have := (Nat.le_trans (H.rowCap 0 rfl).1 (H.rowCap 0 rfl).2)
            have := s0_0.bound
            rw [show IntKind.i64.wrap ((b.length : Int) - at_) = ((b.length : Int) - at_) from w64 (by omega)]
            refine segD2 hst [6] [0, 1, 2, 3, 4, 5, 6] [(0, .slice A0_0 b.length c0_0), (1, .int .i64 at_), (4, .pointer (some (⟨g1, 0, none⟩))), (7, .pointer (some (⟨g11, 0, none⟩))), (9, .slice A50_0 bytes.length c50_0), (49, .bool (decide ((bytes.length : Int) > ((b.length : Int) - at_))))] (by kernel_rfl) ?_
            rw [show (decide ((bytes.length : Int) > ((b.length : Int) - at_))) = false from hb51]
            refine segD2 hst [7, 8, 10, 11, 12, 13, 14, 15] [0, 1, 2, 3, 4, 5, 6, 7, 8, 10, 11, 12, 13, 14, 15] [(1, .int .i64 at_), (4, .pointer (some (⟨g1, 0, none⟩))), (7, .pointer (some (⟨g11, 0, none⟩))), (9, .slice A50_0 bytes.length c50_0), (50, .bool false), (51, .slice A50_0 bytes.length c50_0), (53, .slice A0_0 b.length c0_0), (54, .int .i64 at_), (58, .int .i64 (IntKind.i64.wrap (at_ + (bytes.length : Int))))] (by kernel_rfl) ?_
            refine allD2 [9, 16] (by kernel_rfl) ⟨H.has, H.blk 1 rfl, H.blk 2 rfl⟩ ⟨?_, ?_, trivial⟩
            · replace H : St w noF m mk50 [rowI rU8 5 A50_0 c50_0 bytes, blkI g1 [.int .i64 0, .int .i64 0, .int .i64 0, .int .i64 0, .int .i64 0, .int .i64 0, .int .i64 0, .int .i64 0, .int .i64 0, .slice none 0 0, .int .i64 0, .int .i64 0, .int .i64 0, .int .i64 0, .int .i64 0, .int .i64 0, .string ⟨([] : List UInt8).toArray⟩, .int .i64 0] 46, blkI g11 [.int .i64 Kind, .int .i64 Mode, .int .i64 Uid, .int .i64 Gid, .int .i64 Time, .int .i64 Links, .int .i64 Attrs, .int .i64 Size, .int .i64 Start, .slice A_1_42 Words.length c_2_42, .int .i64 Frag, .int .i64 Off, .int .i64 Tail, .int .i64 Dir, .int .i64 Bytes, .int .i64 Parent, .string ⟨Target.toArray⟩, .int .i64 Dev] 46] w57 := H
              refine (b2sS (some 52) 30 9 5 A50_0 c50_0 bytes Try.underlying30 Try.underlying5 Try.underlying9 (by kernel_rfl) (H.rowCs 0 rfl) ?_)
              have hl59 : bytes.length ≤ 9223372036854775807 := (Nat.le_trans (H.rowCap 0 rfl).1 (H.rowCap 0 rfl).2)
              refine stD2 (i := 16) (by kernel_rfl) ⟨H.has, H.blk 1 rfl, H.blk 2 rfl⟩ (sliS (r := rU8) (some 59) 30 5 A0_0 c0_0 b y_ (some (.int .i64 at_)) (some (.int .i64 (IntKind.i64.wrap (at_ + (bytes.length : Int))))) at_ (IntKind.i64.wrap (at_ + (bytes.length : Int))) (s0_0.mono ((hsub10.trans hsub42).trans hsub50)) (by kernel_rfl) (by kernel_rfl) (.inr ⟨_, rfl⟩) (.inr ⟨_, rfl⟩) h_y_ ?_)
              intro A60 c60 hs60
              refine stD2 (i := 17) (by kernel_rfl) ⟨H.has, H.blk 1 rfl, H.blk 2 rfl⟩ (b2sS (some 60) 30 9 5 A60 c60 y_ Try.underlying30 Try.underlying5 Try.underlying9 (by kernel_rfl) (hs60.bytes.cs H.has) ?_)
              have hl61 : y_.length ≤ 9223372036854775807 := hs60.bound
              refine segD2 hst [18] [0, 1, 2, 3, 4, 5, 6, 7, 8, 10, 11, 12, 13, 14, 15, 9, 16, 17, 18] [(1, .int .i64 at_), (4, .pointer (some (⟨g1, 0, none⟩))), (7, .pointer (some (⟨g11, 0, none⟩))), (9, .slice A50_0 bytes.length c50_0), (50, .bool false), (61, .bool (!((ByteArray.toList ⟨bytes.toArray⟩) == (ByteArray.toList ⟨y_.toArray⟩))))] (by kernel_rfl) ?_
              rw [sne_raw bytes y_]
              refine segD2 hst [19] [0, 1, 2, 3, 4, 5, 6, 7, 8, 10, 11, 12, 13, 14, 15, 9, 16, 17, 18, 19] [(1, .int .i64 at_), (4, .pointer (some (⟨g1, 0, none⟩))), (7, .pointer (some (⟨g11, 0, none⟩))), (9, .slice A50_0 bytes.length c50_0), (62, .bool (bytes != y_))] (by kernel_rfl) ?_
              refine endD2 (by kernel_rfl) ⟨H.has, H.blk 1 rfl, H.blk 2 rfl⟩ ?_
              rcases condT hf with ⟨hb62, hf⟩ | ⟨hb62, hf⟩
              · rw [hb62]
                refine seg 4 [.op [1, 1, 1, 1, 1, 1, 0, 1, 0, 0] 1, .co [1, 1, 1, 1, 1, 1, 0, 1, 0, 1], .co [1, 1, 1, 1, 1, 1, 1]] [(4, .pointer (some (⟨g1, 0, none⟩))), (63, .agg #[.int .i64 0, .int .i64 0, .int .i64 0, .int .i64 0, .int .i64 0, .int .i64 0, .int .i64 0, .int .i64 0, .int .i64 0, .slice none 0 0, .int .i64 0, .int .i64 0, .int .i64 0, .int .i64 0, .int .i64 0, .int .i64 0, .string ⟨([] : List UInt8).toArray⟩, .int .i64 0])] (by kernel_rfl) ?_
                refine st (stAggS none 46 1 g1 0 [.int .i64 0, .int .i64 0, .int .i64 0, .int .i64 0, .int .i64 0, .int .i64 0, .int .i64 0, .int .i64 0, .int .i64 0, .slice none 0 0, .int .i64 0, .int .i64 0, .int .i64 0, .int .i64 0, .int .i64 0, .int .i64 0, .string ⟨([] : List UInt8).toArray⟩, .int .i64 0] [.int .i64 0, .int .i64 0, .int .i64 0, .int .i64 0, .int .i64 0, .int .i64 0, .int .i64 0, .int .i64 0, .int .i64 0, .slice none 0 0, .int .i64 0, .int .i64 0, .int .i64 0, .int .i64 0, .int .i64 0, .int .i64 0, .string ⟨([] : List UInt8).toArray⟩, .int .i64 0] [.int .i64 0, .int .i64 0, .int .i64 0, .int .i64 0, .int .i64 0, .int .i64 0, .int .i64 0, .int .i64 0, .int .i64 0, .slice none 0 0, .int .i64 0, .int .i64 0, .int .i64 0, .int .i64 0, .int .i64 0, .int .i64 0, .string ⟨([] : List UInt8).toArray⟩, .int .i64 0] 46 H rfl (by kernel_rfl) (by kernel_rfl) (by rfl) (of_decide_eq_true rfl) rfl ?_)
                intro w63 H
                refine seg 3 [.co [1, 1, 1, 1, 1, 1, 0, 1, 0, 1], .co [1, 1, 1, 1, 1, 1, 1]] [(4, .pointer (some (⟨g1, 0, none⟩))), (5, .int .i64 0), (6, .int .i64 6)] (by kernel_rfl) ?_
                refine retC [.agg #[.int .i64 0, .int .i64 0, .int .i64 0, .int .i64 0, .int .i64 0, .int .i64 0, .int .i64 0, .int .i64 0, .int .i64 0, .slice none 0 0, .int .i64 0, .int .i64 0, .int .i64 0, .int .i64 0, .int .i64 0, .int .i64 0, .string ⟨([] : List UInt8).toArray⟩, .int .i64 0], .int .i64 0, .int .i64 6] (by kernel_rfl) ⟨⟨_, rfl, ldv_agg 46 (⟨g1, 0, none⟩) [.int .i64 0, .int .i64 0, .int .i64 0, .int .i64 0, .int .i64 0, .int .i64 0, .int .i64 0, .int .i64 0, .int .i64 0, .slice none 0 0, .int .i64 0, .int .i64 0, .int .i64 0, .int .i64 0, .int .i64 0, .int .i64 0, .string ⟨([] : List UInt8).toArray⟩, .int .i64 0] (by kernel_rfl) (H.cellsB 1 rfl (by rfl))⟩, rfl, rfl, trivial⟩ ?_
                obtain rfl : (({ Kind := 0, Mode := 0, Uid := 0, Gid := 0, Time := 0, Links := 0, Attrs := 0, Size := 0, Start := 0, Words := [], Frag := 0, Off := 0, Tail := 0, Dir := 0, Bytes := 0, Parent := 0, Target := ([] : List UInt8), Dev := 0 } : TApiInode), 0, 6) = r := (Option.some.inj hf)
                exact ⟨_, rfl, none, 0, mk50, rfl, (St.takeN 0 H), (SlI.nil _ _), (Nat.le_of_ble_eq_true rfl)⟩
              · rw [hb62]
                refine seg 4 [.op [1, 1, 1, 1, 1, 1, 1, 0] 0, .co [1, 1, 1, 1, 1, 1, 1, 1]] [(1, .int .i64 at_), (4, .pointer (some (⟨g1, 0, none⟩))), (7, .pointer (some (⟨g11, 0, none⟩))), (9, .slice A50_0 bytes.length c50_0)] (by kernel_rfl) ?_
                refine st (ldAggR (some 64) 46 (⟨g11, 0, none⟩) [.int .i64 Kind, .int .i64 Mode, .int .i64 Uid, .int .i64 Gid, .int .i64 Time, .int .i64 Links, .int .i64 Attrs, .int .i64 Size, .int .i64 Start, .slice A_1_42 Words.length c_2_42, .int .i64 Frag, .int .i64 Off, .int .i64 Tail, .int .i64 Dir, .int .i64 Bytes, .int .i64 Parent, .string ⟨Target.toArray⟩, .int .i64 Dev] (by kernel_rfl) (by kernel_rfl) (H.cellsB 2 rfl (by rfl)) ?_)
                refine seg 4 [.op [1, 1, 1, 1, 1, 1, 1, 0] 5, .co [1, 1, 1, 1, 1, 1, 1, 1]] [(4, .pointer (some (⟨g1, 0, none⟩))), (64, .agg #[.int .i64 Kind, .int .i64 Mode, .int .i64 Uid, .int .i64 Gid, .int .i64 Time, .int .i64 Links, .int .i64 Attrs, .int .i64 Size, .int .i64 Start, .slice A_1_42 Words.length c_2_42, .int .i64 Frag, .int .i64 Off, .int .i64 Tail, .int .i64 Dir, .int .i64 Bytes, .int .i64 Parent, .string ⟨Target.toArray⟩, .int .i64 Dev]), (68, .int .i64 (IntKind.i64.wrap (at_ + (bytes.length : Int))))] (by kernel_rfl) ?_
                refine st (stAggS none 46 1 g1 0 [.int .i64 Kind, .int .i64 Mode, .int .i64 Uid, .int .i64 Gid, .int .i64 Time, .int .i64 Links, .int .i64 Attrs, .int .i64 Size, .int .i64 Start, .slice A_1_42 Words.length c_2_42, .int .i64 Frag, .int .i64 Off, .int .i64 Tail, .int .i64 Dir, .int .i64 Bytes, .int .i64 Parent, .string ⟨Target.toArray⟩, .int .i64 Dev] [.int .i64 0, .int .i64 0, .int .i64 0, .int .i64 0, .int .i64 0, .int .i64 0, .int .i64 0, .int .i64 0, .int .i64 0, .slice none 0 0, .int .i64 0, .int .i64 0, .int .i64 0, .int .i64 0, .int .i64 0, .int .i64 0, .string ⟨([] : List UInt8).toArray⟩, .int .i64 0] [.int .i64 Kind, .int .i64 Mode, .int .i64 Uid, .int .i64 Gid, .int .i64 Time, .int .i64 Links, .int .i64 Attrs, .int .i64 Size, .int .i64 Start, .slice A_1_42 Words.length c_2_42, .int .i64 Frag, .int .i64 Off, .int .i64 Tail, .int .i64 Dir, .int .i64 Bytes, .int .i64 Parent, .string ⟨Target.toArray⟩, .int .i64 Dev] 46 H rfl (by kernel_rfl) (by kernel_rfl) (by rfl) (of_decide_eq_true rfl) rfl ?_)
                intro w64 H
                refine seg 3 [.co [1, 1, 1, 1, 1, 1, 1, 1]] [(4, .pointer (some (⟨g1, 0, none⟩))), (5, .int .i64 (IntKind.i64.wrap (at_ + (bytes.length : Int)))), (6, .int .i64 0)] (by kernel_rfl) ?_
                refine retC [.agg #[.int .i64 Kind, .int .i64 Mode, .int .i64 Uid, .int .i64 Gid, .int .i64 Time, .int .i64 Links, .int .i64 Attrs, .int .i64 Size, .int .i64 Start, .slice A_1_42 Words.length c_2_42, .int .i64 Frag, .int .i64 Off, .int .i64 Tail, .int .i64 Dir, .int .i64 Bytes, .int .i64 Parent, .string ⟨Target.toArray⟩, .int .i64 Dev], .int .i64 (IntKind.i64.wrap (at_ + (bytes.length : Int))), .int .i64 0] (by kernel_rfl) ⟨⟨_, rfl, ldv_agg 46 (⟨g1, 0, none⟩) [.int .i64 Kind, .int .i64 Mode, .int .i64 Uid, .int .i64 Gid, .int .i64 Time, .int .i64 Links, .int .i64 Attrs, .int .i64 Size, .int .i64 Start, .slice A_1_42 Words.length c_2_42, .int .i64 Frag, .int .i64 Off, .int .i64 Tail, .int .i64 Dir, .int .i64 Bytes, .int .i64 Parent, .string ⟨Target.toArray⟩, .int .i64 Dev] (by kernel_rfl) (H.cellsB 1 rfl (by rfl))⟩, rfl, rfl, trivial⟩ ?_
                obtain rfl : (({ Kind := Kind, Mode := Mode, Uid := Uid, Gid := Gid, Time := Time, Links := Links, Attrs := Attrs, Size := Size, Start := Start, Words := Words, Frag := Frag, Off := Off, Tail := Tail, Dir := Dir, Bytes := Bytes, Parent := Parent, Target := Target, Dev := Dev } : TApiInode), (IntKind.i64.wrap (at_ + (bytes.length : Int))), 0) = r := (Option.some.inj hf)
                exact ⟨_, rfl, A_1_42, c_2_42, mk50, rfl, (St.takeN 0 H), (hs42_0.mono hsub50), hl42_0⟩
            · refine (sliS (r := rU8) (some 59) 30 5 A0_0 c0_0 b y_ (some (.int .i64 at_)) (some (.int .i64 (IntKind.i64.wrap (at_ + (bytes.length : Int))))) at_ (IntKind.i64.wrap (at_ + (bytes.length : Int))) (s0_0.mono ((hsub10.trans hsub42).trans hsub50)) (by kernel_rfl) (by kernel_rfl) (.inr ⟨_, rfl⟩) (.inr ⟨_, rfl⟩) h_y_ ?_)
              intro A65 c65 hs65
              refine allD2 [9, 17] (by kernel_rfl) ⟨H.has, H.blk 1 rfl, H.blk 2 rfl⟩ ⟨?_, ?_, trivial⟩
              · refine (b2sS (some 52) 30 9 5 A50_0 c50_0 bytes Try.underlying30 Try.underlying5 Try.underlying9 (by kernel_rfl) (H.rowCs 0 rfl) ?_)
                have hl66 : bytes.length ≤ 9223372036854775807 := (Nat.le_trans (H.rowCap 0 rfl).1 (H.rowCap 0 rfl).2)
                refine stD2 (i := 17) (by kernel_rfl) ⟨H.has, H.blk 1 rfl, H.blk 2 rfl⟩ (b2sS (some 60) 30 9 5 A65 c65 y_ Try.underlying30 Try.underlying5 Try.underlying9 (by kernel_rfl) (hs65.bytes.cs H.has) ?_)
                have hl67 : y_.length ≤ 9223372036854775807 := hs65.bound
                refine segD2 hst [18] [0, 1, 2, 3, 4, 5, 6, 7, 8, 10, 11, 12, 13, 14, 15, 16, 9, 17, 18] [(1, .int .i64 at_), (4, .pointer (some (⟨g1, 0, none⟩))), (7, .pointer (some (⟨g11, 0, none⟩))), (9, .slice A50_0 bytes.length c50_0), (50, .bool false), (61, .bool (!((ByteArray.toList ⟨bytes.toArray⟩) == (ByteArray.toList ⟨y_.toArray⟩))))] (by kernel_rfl) ?_
                rw [sne_raw bytes y_]
                refine segD2 hst [19] [0, 1, 2, 3, 4, 5, 6, 7, 8, 10, 11, 12, 13, 14, 15, 16, 9, 17, 18, 19] [(1, .int .i64 at_), (4, .pointer (some (⟨g1, 0, none⟩))), (7, .pointer (some (⟨g11, 0, none⟩))), (9, .slice A50_0 bytes.length c50_0), (62, .bool (bytes != y_))] (by kernel_rfl) ?_
                refine endD2 (by kernel_rfl) ⟨H.has, H.blk 1 rfl, H.blk 2 rfl⟩ ?_
                rcases condT hf with ⟨hb68, hf⟩ | ⟨hb68, hf⟩
                · rw [hb68]
                  refine seg 4 [.op [1, 1, 1, 1, 1, 1, 0, 1, 0, 0] 1, .co [1, 1, 1, 1, 1, 1, 0, 1, 0, 1], .co [1, 1, 1, 1, 1, 1, 1]] [(4, .pointer (some (⟨g1, 0, none⟩))), (63, .agg #[.int .i64 0, .int .i64 0, .int .i64 0, .int .i64 0, .int .i64 0, .int .i64 0, .int .i64 0, .int .i64 0, .int .i64 0, .slice none 0 0, .int .i64 0, .int .i64 0, .int .i64 0, .int .i64 0, .int .i64 0, .int .i64 0, .string ⟨([] : List UInt8).toArray⟩, .int .i64 0])] (by kernel_rfl) ?_
                  refine st (stAggS none 46 1 g1 0 [.int .i64 0, .int .i64 0, .int .i64 0, .int .i64 0, .int .i64 0, .int .i64 0, .int .i64 0, .int .i64 0, .int .i64 0, .slice none 0 0, .int .i64 0, .int .i64 0, .int .i64 0, .int .i64 0, .int .i64 0, .int .i64 0, .string ⟨([] : List UInt8).toArray⟩, .int .i64 0] [.int .i64 0, .int .i64 0, .int .i64 0, .int .i64 0, .int .i64 0, .int .i64 0, .int .i64 0, .int .i64 0, .int .i64 0, .slice none 0 0, .int .i64 0, .int .i64 0, .int .i64 0, .int .i64 0, .int .i64 0, .int .i64 0, .string ⟨([] : List UInt8).toArray⟩, .int .i64 0] [.int .i64 0, .int .i64 0, .int .i64 0, .int .i64 0, .int .i64 0, .int .i64 0, .int .i64 0, .int .i64 0, .int .i64 0, .slice none 0 0, .int .i64 0, .int .i64 0, .int .i64 0, .int .i64 0, .int .i64 0, .int .i64 0, .string ⟨([] : List UInt8).toArray⟩, .int .i64 0] 46 H rfl (by kernel_rfl) (by kernel_rfl) (by rfl) (of_decide_eq_true rfl) rfl ?_)
                  intro w69 H
                  refine seg 3 [.co [1, 1, 1, 1, 1, 1, 0, 1, 0, 1], .co [1, 1, 1, 1, 1, 1, 1]] [(4, .pointer (some (⟨g1, 0, none⟩))), (5, .int .i64 0), (6, .int .i64 6)] (by kernel_rfl) ?_
                  refine retC [.agg #[.int .i64 0, .int .i64 0, .int .i64 0, .int .i64 0, .int .i64 0, .int .i64 0, .int .i64 0, .int .i64 0, .int .i64 0, .slice none 0 0, .int .i64 0, .int .i64 0, .int .i64 0, .int .i64 0, .int .i64 0, .int .i64 0, .string ⟨([] : List UInt8).toArray⟩, .int .i64 0], .int .i64 0, .int .i64 6] (by kernel_rfl) ⟨⟨_, rfl, ldv_agg 46 (⟨g1, 0, none⟩) [.int .i64 0, .int .i64 0, .int .i64 0, .int .i64 0, .int .i64 0, .int .i64 0, .int .i64 0, .int .i64 0, .int .i64 0, .slice none 0 0, .int .i64 0, .int .i64 0, .int .i64 0, .int .i64 0, .int .i64 0, .int .i64 0, .string ⟨([] : List UInt8).toArray⟩, .int .i64 0] (by kernel_rfl) (H.cellsB 1 rfl (by rfl))⟩, rfl, rfl, trivial⟩ ?_
                  obtain rfl : (({ Kind := 0, Mode := 0, Uid := 0, Gid := 0, Time := 0, Links := 0, Attrs := 0, Size := 0, Start := 0, Words := [], Frag := 0, Off := 0, Tail := 0, Dir := 0, Bytes := 0, Parent := 0, Target := ([] : List UInt8), Dev := 0 } : TApiInode), 0, 6) = r := (Option.some.inj hf)
                  exact ⟨_, rfl, none, 0, mk50, rfl, (St.takeN 0 H), (SlI.nil _ _), (Nat.le_of_ble_eq_true rfl)⟩
                · rw [hb68]
                  refine seg 4 [.op [1, 1, 1, 1, 1, 1, 1, 0] 0, .co [1, 1, 1, 1, 1, 1, 1, 1]] [(1, .int .i64 at_), (4, .pointer (some (⟨g1, 0, none⟩))), (7, .pointer (some (⟨g11, 0, none⟩))), (9, .slice A50_0 bytes.length c50_0)] (by kernel_rfl) ?_
                  refine st (ldAggR (some 64) 46 (⟨g11, 0, none⟩) [.int .i64 Kind, .int .i64 Mode, .int .i64 Uid, .int .i64 Gid, .int .i64 Time, .int .i64 Links, .int .i64 Attrs, .int .i64 Size, .int .i64 Start, .slice A_1_42 Words.length c_2_42, .int .i64 Frag, .int .i64 Off, .int .i64 Tail, .int .i64 Dir, .int .i64 Bytes, .int .i64 Parent, .string ⟨Target.toArray⟩, .int .i64 Dev] (by kernel_rfl) (by kernel_rfl) (H.cellsB 2 rfl (by rfl)) ?_)
                  refine seg 4 [.op [1, 1, 1, 1, 1, 1, 1, 0] 5, .co [1, 1, 1, 1, 1, 1, 1, 1]] [(4, .pointer (some (⟨g1, 0, none⟩))), (64, .agg #[.int .i64 Kind, .int .i64 Mode, .int .i64 Uid, .int .i64 Gid, .int .i64 Time, .int .i64 Links, .int .i64 Attrs, .int .i64 Size, .int .i64 Start, .slice A_1_42 Words.length c_2_42, .int .i64 Frag, .int .i64 Off, .int .i64 Tail, .int .i64 Dir, .int .i64 Bytes, .int .i64 Parent, .string ⟨Target.toArray⟩, .int .i64 Dev]), (68, .int .i64 (IntKind.i64.wrap (at_ + (bytes.length : Int))))] (by kernel_rfl) ?_
                  refine st (stAggS none 46 1 g1 0 [.int .i64 Kind, .int .i64 Mode, .int .i64 Uid, .int .i64 Gid, .int .i64 Time, .int .i64 Links, .int .i64 Attrs, .int .i64 Size, .int .i64 Start, .slice A_1_42 Words.length c_2_42, .int .i64 Frag, .int .i64 Off, .int .i64 Tail, .int .i64 Dir, .int .i64 Bytes, .int .i64 Parent, .string ⟨Target.toArray⟩, .int .i64 Dev] [.int .i64 0, .int .i64 0, .int .i64 0, .int .i64 0, .int .i64 0, .int .i64 0, .int .i64 0, .int .i64 0, .int .i64 0, .slice none 0 0, .int .i64 0, .int .i64 0, .int .i64 0, .int .i64 0, .int .i64 0, .int .i64 0, .string ⟨([] : List UInt8).toArray⟩, .int .i64 0] [.int .i64 Kind, .int .i64 Mode, .int .i64 Uid, .int .i64 Gid, .int .i64 Time, .int .i64 Links, .int .i64 Attrs, .int .i64 Size, .int .i64 Start, .slice A_1_42 Words.length c_2_42, .int .i64 Frag, .int .i64 Off, .int .i64 Tail, .int .i64 Dir, .int .i64 Bytes, .int .i64 Parent, .string ⟨Target.toArray⟩, .int .i64 Dev] 46 H rfl (by kernel_rfl) (by kernel_rfl) (by rfl) (of_decide_eq_true rfl) rfl ?_)
                  intro w70 H
                  refine seg 3 [.co [1, 1, 1, 1, 1, 1, 1, 1]] [(4, .pointer (some (⟨g1, 0, none⟩))), (5, .int .i64 (IntKind.i64.wrap (at_ + (bytes.length : Int)))), (6, .int .i64 0)] (by kernel_rfl) ?_
                  refine retC [.agg #[.int .i64 Kind, .int .i64 Mode, .int .i64 Uid, .int .i64 Gid, .int .i64 Time, .int .i64 Links, .int .i64 Attrs, .int .i64 Size, .int .i64 Start, .slice A_1_42 Words.length c_2_42, .int .i64 Frag, .int .i64 Off, .int .i64 Tail, .int .i64 Dir, .int .i64 Bytes, .int .i64 Parent, .string ⟨Target.toArray⟩, .int .i64 Dev], .int .i64 (IntKind.i64.wrap (at_ + (bytes.length : Int))), .int .i64 0] (by kernel_rfl) ⟨⟨_, rfl, ldv_agg 46 (⟨g1, 0, none⟩) [.int .i64 Kind, .int .i64 Mode, .int .i64 Uid, .int .i64 Gid, .int .i64 Time, .int .i64 Links, .int .i64 Attrs, .int .i64 Size, .int .i64 Start, .slice A_1_42 Words.length c_2_42, .int .i64 Frag, .int .i64 Off, .int .i64 Tail, .int .i64 Dir, .int .i64 Bytes, .int .i64 Parent, .string ⟨Target.toArray⟩, .int .i64 Dev] (by kernel_rfl) (H.cellsB 1 rfl (by rfl))⟩, rfl, rfl, trivial⟩ ?_
                  obtain rfl : (({ Kind := Kind, Mode := Mode, Uid := Uid, Gid := Gid, Time := Time, Links := Links, Attrs := Attrs, Size := Size, Start := Start, Words := Words, Frag := Frag, Off := Off, Tail := Tail, Dir := Dir, Bytes := Bytes, Parent := Parent, Target := Target, Dev := Dev } : TApiInode), (IntKind.i64.wrap (at_ + (bytes.length : Int))), 0) = r := (Option.some.inj hf)
                  exact ⟨_, rfl, A_1_42, c_2_42, mk50, rfl, (St.takeN 0 H), (hs42_0.mono hsub50), hl42_0⟩
              · replace H : St w noF m mk50 [rowI rU8 5 A50_0 c50_0 bytes, blkI g1 [.int .i64 0, .int .i64 0, .int .i64 0, .int .i64 0, .int .i64 0, .int .i64 0, .int .i64 0, .int .i64 0, .int .i64 0, .slice none 0 0, .int .i64 0, .int .i64 0, .int .i64 0, .int .i64 0, .int .i64 0, .int .i64 0, .string ⟨([] : List UInt8).toArray⟩, .int .i64 0] 46, blkI g11 [.int .i64 Kind, .int .i64 Mode, .int .i64 Uid, .int .i64 Gid, .int .i64 Time, .int .i64 Links, .int .i64 Attrs, .int .i64 Size, .int .i64 Start, .slice A_1_42 Words.length c_2_42, .int .i64 Frag, .int .i64 Off, .int .i64 Tail, .int .i64 Dir, .int .i64 Bytes, .int .i64 Parent, .string ⟨Target.toArray⟩, .int .i64 Dev] 46] w57 := H
                refine (b2sS (some 60) 30 9 5 A65 c65 y_ Try.underlying30 Try.underlying5 Try.underlying9 (by kernel_rfl) (hs65.bytes.cs H.has) ?_)
                have hl71 : y_.length ≤ 9223372036854775807 := hs65.bound
                refine stD2 (i := 9) (by kernel_rfl) ⟨H.has, H.blk 1 rfl, H.blk 2 rfl⟩ (b2sS (some 52) 30 9 5 A50_0 c50_0 bytes Try.underlying30 Try.underlying5 Try.underlying9 (by kernel_rfl) (H.rowCs 0 rfl) ?_)
                have hl72 : bytes.length ≤ 9223372036854775807 := (Nat.le_trans (H.rowCap 0 rfl).1 (H.rowCap 0 rfl).2)
                refine segD2 hst [18] [0, 1, 2, 3, 4, 5, 6, 7, 8, 10, 11, 12, 13, 14, 15, 16, 17, 9, 18] [(1, .int .i64 at_), (4, .pointer (some (⟨g1, 0, none⟩))), (7, .pointer (some (⟨g11, 0, none⟩))), (9, .slice A50_0 bytes.length c50_0), (50, .bool false), (61, .bool (!((ByteArray.toList ⟨bytes.toArray⟩) == (ByteArray.toList ⟨y_.toArray⟩))))] (by kernel_rfl) ?_
                rw [sne_raw bytes y_]
                refine segD2 hst [19] [0, 1, 2, 3, 4, 5, 6, 7, 8, 10, 11, 12, 13, 14, 15, 16, 17, 9, 18, 19] [(1, .int .i64 at_), (4, .pointer (some (⟨g1, 0, none⟩))), (7, .pointer (some (⟨g11, 0, none⟩))), (9, .slice A50_0 bytes.length c50_0), (62, .bool (bytes != y_))] (by kernel_rfl) ?_
                refine endD2 (by kernel_rfl) ⟨H.has, H.blk 1 rfl, H.blk 2 rfl⟩ ?_
                rcases condT hf with ⟨hb73, hf⟩ | ⟨hb73, hf⟩
                · rw [hb73]
                  refine seg 4 [.op [1, 1, 1, 1, 1, 1, 0, 1, 0, 0] 1, .co [1, 1, 1, 1, 1, 1, 0, 1, 0, 1], .co [1, 1, 1, 1, 1, 1, 1]] [(4, .pointer (some (⟨g1, 0, none⟩))), (63, .agg #[.int .i64 0, .int .i64 0, .int .i64 0, .int .i64 0, .int .i64 0, .int .i64 0, .int .i64 0, .int .i64 0, .int .i64 0, .slice none 0 0, .int .i64 0, .int .i64 0, .int .i64 0, .int .i64 0, .int .i64 0, .int .i64 0, .string ⟨([] : List UInt8).toArray⟩, .int .i64 0])] (by kernel_rfl) ?_
                  refine st (stAggS none 46 1 g1 0 [.int .i64 0, .int .i64 0, .int .i64 0, .int .i64 0, .int .i64 0, .int .i64 0, .int .i64 0, .int .i64 0, .int .i64 0, .slice none 0 0, .int .i64 0, .int .i64 0, .int .i64 0, .int .i64 0, .int .i64 0, .int .i64 0, .string ⟨([] : List UInt8).toArray⟩, .int .i64 0] [.int .i64 0, .int .i64 0, .int .i64 0, .int .i64 0, .int .i64 0, .int .i64 0, .int .i64 0, .int .i64 0, .int .i64 0, .slice none 0 0, .int .i64 0, .int .i64 0, .int .i64 0, .int .i64 0, .int .i64 0, .int .i64 0, .string ⟨([] : List UInt8).toArray⟩, .int .i64 0] [.int .i64 0, .int .i64 0, .int .i64 0, .int .i64 0, .int .i64 0, .int .i64 0, .int .i64 0, .int .i64 0, .int .i64 0, .slice none 0 0, .int .i64 0, .int .i64 0, .int .i64 0, .int .i64 0, .int .i64 0, .int .i64 0, .string ⟨([] : List UInt8).toArray⟩, .int .i64 0] 46 H rfl (by kernel_rfl) (by kernel_rfl) (by rfl) (of_decide_eq_true rfl) rfl ?_)
                  intro w74 H
                  refine seg 3 [.co [1, 1, 1, 1, 1, 1, 0, 1, 0, 1], .co [1, 1, 1, 1, 1, 1, 1]] [(4, .pointer (some (⟨g1, 0, none⟩))), (5, .int .i64 0), (6, .int .i64 6)] (by kernel_rfl) ?_
                  refine retC [.agg #[.int .i64 0, .int .i64 0, .int .i64 0, .int .i64 0, .int .i64 0, .int .i64 0, .int .i64 0, .int .i64 0, .int .i64 0, .slice none 0 0, .int .i64 0, .int .i64 0, .int .i64 0, .int .i64 0, .int .i64 0, .int .i64 0, .string ⟨([] : List UInt8).toArray⟩, .int .i64 0], .int .i64 0, .int .i64 6] (by kernel_rfl) ⟨⟨_, rfl, ldv_agg 46 (⟨g1, 0, none⟩) [.int .i64 0, .int .i64 0, .int .i64 0, .int .i64 0, .int .i64 0, .int .i64 0, .int .i64 0, .int .i64 0, .int .i64 0, .slice none 0 0, .int .i64 0, .int .i64 0, .int .i64 0, .int .i64 0, .int .i64 0, .int .i64 0, .string ⟨([] : List UInt8).toArray⟩, .int .i64 0] (by kernel_rfl) (H.cellsB 1 rfl (by rfl))⟩, rfl, rfl, trivial⟩ ?_
                  obtain rfl : (({ Kind := 0, Mode := 0, Uid := 0, Gid := 0, Time := 0, Links := 0, Attrs := 0, Size := 0, Start := 0, Words := [], Frag := 0, Off := 0, Tail := 0, Dir := 0, Bytes := 0, Parent := 0, Target := ([] : List UInt8), Dev := 0 } : TApiInode), 0, 6) = r := (Option.some.inj hf)
                  exact ⟨_, rfl, none, 0, mk50, rfl, (St.takeN 0 H), (SlI.nil _ _), (Nat.le_of_ble_eq_true rfl)⟩
                · rw [hb73]
                  refine seg 4 [.op [1, 1, 1, 1, 1, 1, 1, 0] 0, .co [1, 1, 1, 1, 1, 1, 1, 1]] [(1, .int .i64 at_), (4, .pointer (some (⟨g1, 0, none⟩))), (7, .pointer (some (⟨g11, 0, none⟩))), (9, .slice A50_0 bytes.length c50_0)] (by kernel_rfl) ?_
                  refine st (ldAggR (some 64) 46 (⟨g11, 0, none⟩) [.int .i64 Kind, .int .i64 Mode, .int .i64 Uid, .int .i64 Gid, .int .i64 Time, .int .i64 Links, .int .i64 Attrs, .int .i64 Size, .int .i64 Start, .slice A_1_42 Words.length c_2_42, .int .i64 Frag, .int .i64 Off, .int .i64 Tail, .int .i64 Dir, .int .i64 Bytes, .int .i64 Parent, .string ⟨Target.toArray⟩, .int .i64 Dev] (by kernel_rfl) (by kernel_rfl) (H.cellsB 2 rfl (by rfl)) ?_)
                  refine seg 4 [.op [1, 1, 1, 1, 1, 1, 1, 0] 5, .co [1, 1, 1, 1, 1, 1, 1, 1]] [(4, .pointer (some (⟨g1, 0, none⟩))), (64, .agg #[.int .i64 Kind, .int .i64 Mode, .int .i64 Uid, .int .i64 Gid, .int .i64 Time, .int .i64 Links, .int .i64 Attrs, .int .i64 Size, .int .i64 Start, .slice A_1_42 Words.length c_2_42, .int .i64 Frag, .int .i64 Off, .int .i64 Tail, .int .i64 Dir, .int .i64 Bytes, .int .i64 Parent, .string ⟨Target.toArray⟩, .int .i64 Dev]), (68, .int .i64 (IntKind.i64.wrap (at_ + (bytes.length : Int))))] (by kernel_rfl) ?_
                  refine st (stAggS none 46 1 g1 0 [.int .i64 Kind, .int .i64 Mode, .int .i64 Uid, .int .i64 Gid, .int .i64 Time, .int .i64 Links, .int .i64 Attrs, .int .i64 Size, .int .i64 Start, .slice A_1_42 Words.length c_2_42, .int .i64 Frag, .int .i64 Off, .int .i64 Tail, .int .i64 Dir, .int .i64 Bytes, .int .i64 Parent, .string ⟨Target.toArray⟩, .int .i64 Dev] [.int .i64 0, .int .i64 0, .int .i64 0, .int .i64 0, .int .i64 0, .int .i64 0, .int .i64 0, .int .i64 0, .int .i64 0, .slice none 0 0, .int .i64 0, .int .i64 0, .int .i64 0, .int .i64 0, .int .i64 0, .int .i64 0, .string ⟨([] : List UInt8).toArray⟩, .int .i64 0] [.int .i64 Kind, .int .i64 Mode, .int .i64 Uid, .int .i64 Gid, .int .i64 Time, .int .i64 Links, .int .i64 Attrs, .int .i64 Size, .int .i64 Start, .slice A_1_42 Words.length c_2_42, .int .i64 Frag, .int .i64 Off, .int .i64 Tail, .int .i64 Dir, .int .i64 Bytes, .int .i64 Parent, .string ⟨Target.toArray⟩, .int .i64 Dev] 46 H rfl (by kernel_rfl) (by kernel_rfl) (by rfl) (of_decide_eq_true rfl) rfl ?_)
                  intro w75 H
                  refine seg 3 [.co [1, 1, 1, 1, 1, 1, 1, 1]] [(4, .pointer (some (⟨g1, 0, none⟩))), (5, .int .i64 (IntKind.i64.wrap (at_ + (bytes.length : Int)))), (6, .int .i64 0)] (by kernel_rfl) ?_
                  refine retC [.agg #[.int .i64 Kind, .int .i64 Mode, .int .i64 Uid, .int .i64 Gid, .int .i64 Time, .int .i64 Links, .int .i64 Attrs, .int .i64 Size, .int .i64 Start, .slice A_1_42 Words.length c_2_42, .int .i64 Frag, .int .i64 Off, .int .i64 Tail, .int .i64 Dir, .int .i64 Bytes, .int .i64 Parent, .string ⟨Target.toArray⟩, .int .i64 Dev], .int .i64 (IntKind.i64.wrap (at_ + (bytes.length : Int))), .int .i64 0] (by kernel_rfl) ⟨⟨_, rfl, ldv_agg 46 (⟨g1, 0, none⟩) [.int .i64 Kind, .int .i64 Mode, .int .i64 Uid, .int .i64 Gid, .int .i64 Time, .int .i64 Links, .int .i64 Attrs, .int .i64 Size, .int .i64 Start, .slice A_1_42 Words.length c_2_42, .int .i64 Frag, .int .i64 Off, .int .i64 Tail, .int .i64 Dir, .int .i64 Bytes, .int .i64 Parent, .string ⟨Target.toArray⟩, .int .i64 Dev] (by kernel_rfl) (H.cellsB 1 rfl (by rfl))⟩, rfl, rfl, trivial⟩ ?_
                  obtain rfl : (({ Kind := Kind, Mode := Mode, Uid := Uid, Gid := Gid, Time := Time, Links := Links, Attrs := Attrs, Size := Size, Start := Start, Words := Words, Frag := Frag, Off := Off, Tail := Tail, Dir := Dir, Bytes := Bytes, Parent := Parent, Target := Target, Dev := Dev } : TApiInode), (IntKind.i64.wrap (at_ + (bytes.length : Int))), 0) = r := (Option.some.inj hf)
                  exact ⟨_, rfl, A_1_42, c_2_42, mk50, rfl, (St.takeN 0 H), (hs42_0.mono hsub50), hl42_0⟩
      · rw [hb46]
        refine seg 9 [.op [1, 1, 1, 1, 0, 1, 0, 0] 1, .co [1, 1, 1, 1, 0, 1, 0, 1], .co [1, 1, 1, 1, 1]] [(4, .pointer (some (⟨g1, 0, none⟩))), (40, .agg #[.int .i64 0, .int .i64 0, .int .i64 0, .int .i64 0, .int .i64 0, .int .i64 0, .int .i64 0, .int .i64 0, .int .i64 0, .slice none 0 0, .int .i64 0, .int .i64 0, .int .i64 0, .int .i64 0, .int .i64 0, .int .i64 0, .string ⟨([] : List UInt8).toArray⟩, .int .i64 0])] (by kernel_rfl) ?_
        refine st (stAggS none 46 0 g1 0 [.int .i64 0, .int .i64 0, .int .i64 0, .int .i64 0, .int .i64 0, .int .i64 0, .int .i64 0, .int .i64 0, .int .i64 0, .slice none 0 0, .int .i64 0, .int .i64 0, .int .i64 0, .int .i64 0, .int .i64 0, .int .i64 0, .string ⟨([] : List UInt8).toArray⟩, .int .i64 0] [.int .i64 0, .int .i64 0, .int .i64 0, .int .i64 0, .int .i64 0, .int .i64 0, .int .i64 0, .int .i64 0, .int .i64 0, .slice none 0 0, .int .i64 0, .int .i64 0, .int .i64 0, .int .i64 0, .int .i64 0, .int .i64 0, .string ⟨([] : List UInt8).toArray⟩, .int .i64 0] [.int .i64 0, .int .i64 0, .int .i64 0, .int .i64 0, .int .i64 0, .int .i64 0, .int .i64 0, .int .i64 0, .int .i64 0, .slice none 0 0, .int .i64 0, .int .i64 0, .int .i64 0, .int .i64 0, .int .i64 0, .int .i64 0, .string ⟨([] : List UInt8).toArray⟩, .int .i64 0] 46 H rfl (by kernel_rfl) (by kernel_rfl) (by rfl) (of_decide_eq_true rfl) rfl ?_)
        intro w76 H
        refine seg 3 [.co [1, 1, 1, 1, 0, 1, 0, 1], .co [1, 1, 1, 1, 1]] [(4, .pointer (some (⟨g1, 0, none⟩))), (5, .int .i64 0), (6, .int .i64 6)] (by kernel_rfl) ?_
        refine retC [.agg #[.int .i64 0, .int .i64 0, .int .i64 0, .int .i64 0, .int .i64 0, .int .i64 0, .int .i64 0, .int .i64 0, .int .i64 0, .slice none 0 0, .int .i64 0, .int .i64 0, .int .i64 0, .int .i64 0, .int .i64 0, .int .i64 0, .string ⟨([] : List UInt8).toArray⟩, .int .i64 0], .int .i64 0, .int .i64 6] (by kernel_rfl) ⟨⟨_, rfl, ldv_agg 46 (⟨g1, 0, none⟩) [.int .i64 0, .int .i64 0, .int .i64 0, .int .i64 0, .int .i64 0, .int .i64 0, .int .i64 0, .int .i64 0, .int .i64 0, .slice none 0 0, .int .i64 0, .int .i64 0, .int .i64 0, .int .i64 0, .int .i64 0, .int .i64 0, .string ⟨([] : List UInt8).toArray⟩, .int .i64 0] (by kernel_rfl) (H.cellsB 0 rfl (by rfl))⟩, rfl, rfl, trivial⟩ ?_
        obtain rfl : (({ Kind := 0, Mode := 0, Uid := 0, Gid := 0, Time := 0, Links := 0, Attrs := 0, Size := 0, Start := 0, Words := [], Frag := 0, Off := 0, Tail := 0, Dir := 0, Bytes := 0, Parent := 0, Target := ([] : List UInt8), Dev := 0 } : TApiInode), 0, 6) = r := (Option.some.inj hf)
        exact ⟨_, rfl, none, 0, mm42, rfl, (St.takeN 0 H), (SlI.nil _ _), (Nat.le_of_ble_eq_true rfl)⟩
theorem ref15_Same_c {m : Mem} {w : World} (hm : Has m w) (a : TApiInode) (A0_9 : Option Addr) (c0_9 : Nat) (s0_9 : SlI rI64 m A0_9 c0_9 a.Words) (l0_16 : a.Target.length ≤ 9223372036854775807) (b : TApiInode) (A1_9 : Option Addr) (c1_9 : Nat) (s1_9 : SlI rI64 m A1_9 c1_9 b.Words) (l1_16 : b.Target.length ≤ 9223372036854775807) {r : Bool} (hf : ref15_Same a b = some r) :
    Calls Try.prog 33 #[.agg #[.int .i64 a.Kind, .int .i64 a.Mode, .int .i64 a.Uid, .int .i64 a.Gid, .int .i64 a.Time, .int .i64 a.Links, .int .i64 a.Attrs, .int .i64 a.Size, .int .i64 a.Start, .slice A0_9 a.Words.length c0_9, .int .i64 a.Frag, .int .i64 a.Off, .int .i64 a.Tail, .int .i64 a.Dir, .int .i64 a.Bytes, .int .i64 a.Parent, .string ⟨a.Target.toArray⟩, .int .i64 a.Dev], .agg #[.int .i64 b.Kind, .int .i64 b.Mode, .int .i64 b.Uid, .int .i64 b.Gid, .int .i64 b.Time, .int .i64 b.Links, .int .i64 b.Attrs, .int .i64 b.Size, .int .i64 b.Start, .slice A1_9 b.Words.length c1_9, .int .i64 b.Frag, .int .i64 b.Off, .int .i64 b.Tail, .int .i64 b.Dir, .int .i64 b.Bytes, .int .i64 b.Parent, .string ⟨b.Target.toArray⟩, .int .i64 b.Dev]] w fun e w' => ∃ v, e = .returned v ∧ v = .bool r ∧ Ex w w' := by
  unfold ref15_Same at hf
  have H := St.start0 hm
  refine callsR Try.func33 (by kernel_rfl) (by kernel_rfl) ?_
  refine seg 2 [.op [0] 0, .co [1]] [(0, .agg #[.int .i64 a.Kind, .int .i64 a.Mode, .int .i64 a.Uid, .int .i64 a.Gid, .int .i64 a.Time, .int .i64 a.Links, .int .i64 a.Attrs, .int .i64 a.Size, .int .i64 a.Start, .slice A0_9 a.Words.length c0_9, .int .i64 a.Frag, .int .i64 a.Off, .int .i64 a.Tail, .int .i64 a.Dir, .int .i64 a.Bytes, .int .i64 a.Parent, .string ⟨a.Target.toArray⟩, .int .i64 a.Dev]), (1, .agg #[.int .i64 b.Kind, .int .i64 b.Mode, .int .i64 b.Uid, .int .i64 b.Gid, .int .i64 b.Time, .int .i64 b.Links, .int .i64 b.Attrs, .int .i64 b.Size, .int .i64 b.Start, .slice A1_9 b.Words.length c1_9, .int .i64 b.Frag, .int .i64 b.Off, .int .i64 b.Tail, .int .i64 b.Dir, .int .i64 b.Bytes, .int .i64 b.Parent, .string ⟨b.Target.toArray⟩, .int .i64 b.Dev])] (by kernel_rfl) ?_
  refine st (newS (some 2) (fun g => .pointer (some ⟨g, 0, none⟩)) [.int .i64 a.Kind, .int .i64 a.Mode, .int .i64 a.Uid, .int .i64 a.Gid, .int .i64 a.Time, .int .i64 a.Links, .int .i64 a.Attrs, .int .i64 a.Size, .int .i64 a.Start, .slice A0_9 a.Words.length c0_9, .int .i64 a.Frag, .int .i64 a.Off, .int .i64 a.Tail, .int .i64 a.Dir, .int .i64 a.Bytes, .int .i64 a.Parent, .string ⟨a.Target.toArray⟩, .int .i64 a.Dev] 46 H (by kernel_rfl) ?_)
  intro g1 w1 H
  refine st (newS (some 3) (fun g => .pointer (some ⟨g, 0, none⟩)) [.int .i64 b.Kind, .int .i64 b.Mode, .int .i64 b.Uid, .int .i64 b.Gid, .int .i64 b.Time, .int .i64 b.Links, .int .i64 b.Attrs, .int .i64 b.Size, .int .i64 b.Start, .slice A1_9 b.Words.length c1_9, .int .i64 b.Frag, .int .i64 b.Off, .int .i64 b.Tail, .int .i64 b.Dir, .int .i64 b.Bytes, .int .i64 b.Parent, .string ⟨b.Target.toArray⟩, .int .i64 b.Dev] 46 H (by kernel_rfl) ?_)
  intro g2 w2 H
  refine seg 4 [.co [1, 0, 0], .co [1, 0, 1], .co [1, 1]] [(2, .pointer (some (⟨g1, 0, none⟩))), (3, .pointer (some (⟨g2, 0, none⟩)))] (by kernel_rfl) ?_
  obtain ⟨y37, hp37, hf⟩ := ltE hf
  refine joinR 0 (fun (x : Bool) => [(2, .pointer (some (⟨g1, 0, none⟩))), (3, .pointer (some (⟨g2, 0, none⟩))), (131, .bool x)]) (fun (x : Bool) (wj37 : World) => y37 = x ∧ St w noF m m [blkI g1 [.int .i64 a.Kind, .int .i64 a.Mode, .int .i64 a.Uid, .int .i64 a.Gid, .int .i64 a.Time, .int .i64 a.Links, .int .i64 a.Attrs, .int .i64 a.Size, .int .i64 a.Start, .slice A0_9 a.Words.length c0_9, .int .i64 a.Frag, .int .i64 a.Off, .int .i64 a.Tail, .int .i64 a.Dir, .int .i64 a.Bytes, .int .i64 a.Parent, .string ⟨a.Target.toArray⟩, .int .i64 a.Dev] 46, blkI g2 [.int .i64 b.Kind, .int .i64 b.Mode, .int .i64 b.Uid, .int .i64 b.Gid, .int .i64 b.Time, .int .i64 b.Links, .int .i64 b.Attrs, .int .i64 b.Size, .int .i64 b.Start, .slice A1_9 b.Words.length c1_9, .int .i64 b.Frag, .int .i64 b.Off, .int .i64 b.Tail, .int .i64 b.Dir, .int .i64 b.Bytes, .int .i64 b.Parent, .string ⟨b.Target.toArray⟩, .int .i64 b.Dev] 46] wj37) (by kernel_rfl) ?_ ?_
  · refine seg 2 [.op [1, 0, 0] 1, .le 0, .co [1, 0, 1], .co [1, 1]] [(2, .pointer (some (⟨g1, 0, none⟩))), (3, .pointer (some (⟨g2, 0, none⟩))), (6, .pointer (some (⟨g1, 0, none⟩)))] (by kernel_rfl) ?_
    refine st (ldR (some 7) 3 (⟨g1, 0, none⟩) (.int .i64 a.Kind) (by kernel_rfl) (by kernel_rfl) (H.cellB 1 rfl rfl) ?_)
    refine seg 1 [.op [1, 0, 0] 3, .le 0, .co [1, 0, 1], .co [1, 1]] [(2, .pointer (some (⟨g1, 0, none⟩))), (3, .pointer (some (⟨g2, 0, none⟩))), (7, .int .i64 a.Kind), (8, .pointer (some (⟨g2, 0, none⟩)))] (by kernel_rfl) ?_
    refine st (ldR (some 9) 3 (⟨g2, 0, none⟩) (.int .i64 b.Kind) (by kernel_rfl) (by kernel_rfl) (H.cellB 0 rfl rfl) ?_)
    refine seg 2 [.op [1, 0, 0] 6, .le 0, .co [1, 0, 1], .co [1, 1]] [(2, .pointer (some (⟨g1, 0, none⟩))), (3, .pointer (some (⟨g2, 0, none⟩))), (11, .bool (a.Kind != b.Kind))] (by kernel_rfl) ?_
    rcases condT hp37 with ⟨hb39, hp37⟩ | ⟨hb39, hp37⟩
    · rw [hb39]
      refine seg 121 [.le 0, .co [1, 0, 1], .co [1, 1]] [(2, .pointer (some (⟨g1, 0, none⟩))), (3, .pointer (some (⟨g2, 0, none⟩))), (131, .bool true)] (by kernel_rfl) ?_
      refine leJ (true) ⟨hp37.symm, (H.pull 1 rfl)⟩ (by kernel_rfl)
    · rw [hb39]
      refine seg 1 [.op [1, 0, 0] 7, .le 0, .co [1, 0, 1], .co [1, 1]] [(2, .pointer (some (⟨g1, 0, none⟩))), (3, .pointer (some (⟨g2, 0, none⟩))), (11, .bool false), (12, .pointer (some (⟨g1, 1, none⟩)))] (by kernel_rfl) ?_
      refine st (ldR (some 13) 3 (⟨g1, 1, none⟩) (.int .i64 a.Mode) (by kernel_rfl) (by kernel_rfl) (H.cellB 1 rfl rfl) ?_)
      refine seg 1 [.op [1, 0, 0] 9, .le 0, .co [1, 0, 1], .co [1, 1]] [(2, .pointer (some (⟨g1, 0, none⟩))), (3, .pointer (some (⟨g2, 0, none⟩))), (11, .bool false), (13, .int .i64 a.Mode), (14, .pointer (some (⟨g2, 1, none⟩)))] (by kernel_rfl) ?_
      refine st (ldR (some 15) 3 (⟨g2, 1, none⟩) (.int .i64 b.Mode) (by kernel_rfl) (by kernel_rfl) (H.cellB 0 rfl rfl) ?_)
      refine seg 3 [.op [1, 0, 0] 13, .le 0, .co [1, 0, 1], .co [1, 1]] [(2, .pointer (some (⟨g1, 0, none⟩))), (3, .pointer (some (⟨g2, 0, none⟩))), (18, .bool (a.Mode != b.Mode))] (by kernel_rfl) ?_
      rcases condT hp37 with ⟨hb40, hp37⟩ | ⟨hb40, hp37⟩
      · rw [hb40]
        refine seg 114 [.le 0, .co [1, 0, 1], .co [1, 1]] [(2, .pointer (some (⟨g1, 0, none⟩))), (3, .pointer (some (⟨g2, 0, none⟩))), (131, .bool true)] (by kernel_rfl) ?_
        refine leJ (true) ⟨hp37.symm, (H.pull 1 rfl)⟩ (by kernel_rfl)
      · rw [hb40]
        refine seg 1 [.op [1, 0, 0] 14, .le 0, .co [1, 0, 1], .co [1, 1]] [(2, .pointer (some (⟨g1, 0, none⟩))), (3, .pointer (some (⟨g2, 0, none⟩))), (18, .bool false), (19, .pointer (some (⟨g1, 2, none⟩)))] (by kernel_rfl) ?_
        refine st (ldR (some 20) 3 (⟨g1, 2, none⟩) (.int .i64 a.Uid) (by kernel_rfl) (by kernel_rfl) (H.cellB 1 rfl rfl) ?_)
        refine seg 1 [.op [1, 0, 0] 16, .le 0, .co [1, 0, 1], .co [1, 1]] [(2, .pointer (some (⟨g1, 0, none⟩))), (3, .pointer (some (⟨g2, 0, none⟩))), (18, .bool false), (20, .int .i64 a.Uid), (21, .pointer (some (⟨g2, 2, none⟩)))] (by kernel_rfl) ?_
        refine st (ldR (some 22) 3 (⟨g2, 2, none⟩) (.int .i64 b.Uid) (by kernel_rfl) (by kernel_rfl) (H.cellB 0 rfl rfl) ?_)
        refine seg 3 [.op [1, 0, 0] 20, .le 0, .co [1, 0, 1], .co [1, 1]] [(2, .pointer (some (⟨g1, 0, none⟩))), (3, .pointer (some (⟨g2, 0, none⟩))), (25, .bool (a.Uid != b.Uid))] (by kernel_rfl) ?_
        rcases condT hp37 with ⟨hb41, hp37⟩ | ⟨hb41, hp37⟩
        · rw [hb41]
          refine seg 107 [.le 0, .co [1, 0, 1], .co [1, 1]] [(2, .pointer (some (⟨g1, 0, none⟩))), (3, .pointer (some (⟨g2, 0, none⟩))), (131, .bool true)] (by kernel_rfl) ?_
          refine leJ (true) ⟨hp37.symm, (H.pull 1 rfl)⟩ (by kernel_rfl)
        · rw [hb41]
          refine seg 1 [.op [1, 0, 0] 21, .le 0, .co [1, 0, 1], .co [1, 1]] [(2, .pointer (some (⟨g1, 0, none⟩))), (3, .pointer (some (⟨g2, 0, none⟩))), (25, .bool false), (26, .pointer (some (⟨g1, 3, none⟩)))] (by kernel_rfl) ?_
          refine st (ldR (some 27) 3 (⟨g1, 3, none⟩) (.int .i64 a.Gid) (by kernel_rfl) (by kernel_rfl) (H.cellB 1 rfl rfl) ?_)
          refine seg 1 [.op [1, 0, 0] 23, .le 0, .co [1, 0, 1], .co [1, 1]] [(2, .pointer (some (⟨g1, 0, none⟩))), (3, .pointer (some (⟨g2, 0, none⟩))), (25, .bool false), (27, .int .i64 a.Gid), (28, .pointer (some (⟨g2, 3, none⟩)))] (by kernel_rfl) ?_
          refine st (ldR (some 29) 3 (⟨g2, 3, none⟩) (.int .i64 b.Gid) (by kernel_rfl) (by kernel_rfl) (H.cellB 0 rfl rfl) ?_)
          refine seg 3 [.op [1, 0, 0] 27, .le 0, .co [1, 0, 1], .co [1, 1]] [(2, .pointer (some (⟨g1, 0, none⟩))), (3, .pointer (some (⟨g2, 0, none⟩))), (32, .bool (a.Gid != b.Gid))] (by kernel_rfl) ?_
          rcases condT hp37 with ⟨hb42, hp37⟩ | ⟨hb42, hp37⟩
          · rw [hb42]
            refine seg 100 [.le 0, .co [1, 0, 1], .co [1, 1]] [(2, .pointer (some (⟨g1, 0, none⟩))), (3, .pointer (some (⟨g2, 0, none⟩))), (131, .bool true)] (by kernel_rfl) ?_
            refine leJ (true) ⟨hp37.symm, (H.pull 1 rfl)⟩ (by kernel_rfl)
          · rw [hb42]
            refine seg 1 [.op [1, 0, 0] 28, .le 0, .co [1, 0, 1], .co [1, 1]] [(2, .pointer (some (⟨g1, 0, none⟩))), (3, .pointer (some (⟨g2, 0, none⟩))), (32, .bool false), (33, .pointer (some (⟨g1, 4, none⟩)))] (by kernel_rfl) ?_
            refine st (ldR (some 34) 3 (⟨g1, 4, none⟩) (.int .i64 a.Time) (by kernel_rfl) (by kernel_rfl) (H.cellB 1 rfl rfl) ?_)
            refine seg 1 [.op [1, 0, 0] 30, .le 0, .co [1, 0, 1], .co [1, 1]] [(2, .pointer (some (⟨g1, 0, none⟩))), (3, .pointer (some (⟨g2, 0, none⟩))), (32, .bool false), (34, .int .i64 a.Time), (35, .pointer (some (⟨g2, 4, none⟩)))] (by kernel_rfl) ?_
            refine st (ldR (some 36) 3 (⟨g2, 4, none⟩) (.int .i64 b.Time) (by kernel_rfl) (by kernel_rfl) (H.cellB 0 rfl rfl) ?_)
            refine seg 3 [.op [1, 0, 0] 34, .le 0, .co [1, 0, 1], .co [1, 1]] [(2, .pointer (some (⟨g1, 0, none⟩))), (3, .pointer (some (⟨g2, 0, none⟩))), (39, .bool (a.Time != b.Time))] (by kernel_rfl) ?_
            rcases condT hp37 with ⟨hb43, hp37⟩ | ⟨hb43, hp37⟩
            · rw [hb43]
              refine seg 93 [.le 0, .co [1, 0, 1], .co [1, 1]] [(2, .pointer (some (⟨g1, 0, none⟩))), (3, .pointer (some (⟨g2, 0, none⟩))), (131, .bool true)] (by kernel_rfl) ?_
              refine leJ (true) ⟨hp37.symm, (H.pull 1 rfl)⟩ (by kernel_rfl)
            · rw [hb43]
              refine seg 1 [.op [1, 0, 0] 35, .le 0, .co [1, 0, 1], .co [1, 1]] [(2, .pointer (some (⟨g1, 0, none⟩))), (3, .pointer (some (⟨g2, 0, none⟩))), (39, .bool false), (40, .pointer (some (⟨g1, 5, none⟩)))] (by kernel_rfl) ?_
              refine st (ldR (some 41) 3 (⟨g1, 5, none⟩) (.int .i64 a.Links) (by kernel_rfl) (by kernel_rfl) (H.cellB 1 rfl rfl) ?_)
              refine seg 1 [.op [1, 0, 0] 37, .le 0, .co [1, 0, 1], .co [1, 1]] [(2, .pointer (some (⟨g1, 0, none⟩))), (3, .pointer (some (⟨g2, 0, none⟩))), (39, .bool false), (41, .int .i64 a.Links), (42, .pointer (some (⟨g2, 5, none⟩)))] (by kernel_rfl) ?_
              refine st (ldR (some 43) 3 (⟨g2, 5, none⟩) (.int .i64 b.Links) (by kernel_rfl) (by kernel_rfl) (H.cellB 0 rfl rfl) ?_)
              refine seg 3 [.op [1, 0, 0] 41, .le 0, .co [1, 0, 1], .co [1, 1]] [(2, .pointer (some (⟨g1, 0, none⟩))), (3, .pointer (some (⟨g2, 0, none⟩))), (46, .bool (a.Links != b.Links))] (by kernel_rfl) ?_
              rcases condT hp37 with ⟨hb44, hp37⟩ | ⟨hb44, hp37⟩
              · rw [hb44]
                refine seg 86 [.le 0, .co [1, 0, 1], .co [1, 1]] [(2, .pointer (some (⟨g1, 0, none⟩))), (3, .pointer (some (⟨g2, 0, none⟩))), (131, .bool true)] (by kernel_rfl) ?_
                refine leJ (true) ⟨hp37.symm, (H.pull 1 rfl)⟩ (by kernel_rfl)
              · rw [hb44]
                refine seg 1 [.op [1, 0, 0] 42, .le 0, .co [1, 0, 1], .co [1, 1]] [(2, .pointer (some (⟨g1, 0, none⟩))), (3, .pointer (some (⟨g2, 0, none⟩))), (46, .bool false), (47, .pointer (some (⟨g1, 6, none⟩)))] (by kernel_rfl) ?_
                refine st (ldR (some 48) 3 (⟨g1, 6, none⟩) (.int .i64 a.Attrs) (by kernel_rfl) (by kernel_rfl) (H.cellB 1 rfl rfl) ?_)
                refine seg 1 [.op [1, 0, 0] 44, .le 0, .co [1, 0, 1], .co [1, 1]] [(2, .pointer (some (⟨g1, 0, none⟩))), (3, .pointer (some (⟨g2, 0, none⟩))), (46, .bool false), (48, .int .i64 a.Attrs), (49, .pointer (some (⟨g2, 6, none⟩)))] (by kernel_rfl) ?_
                refine st (ldR (some 50) 3 (⟨g2, 6, none⟩) (.int .i64 b.Attrs) (by kernel_rfl) (by kernel_rfl) (H.cellB 0 rfl rfl) ?_)
                refine seg 3 [.op [1, 0, 0] 48, .le 0, .co [1, 0, 1], .co [1, 1]] [(2, .pointer (some (⟨g1, 0, none⟩))), (3, .pointer (some (⟨g2, 0, none⟩))), (53, .bool (a.Attrs != b.Attrs))] (by kernel_rfl) ?_
                rcases condT hp37 with ⟨hb45, hp37⟩ | ⟨hb45, hp37⟩
                · rw [hb45]
                  refine seg 79 [.le 0, .co [1, 0, 1], .co [1, 1]] [(2, .pointer (some (⟨g1, 0, none⟩))), (3, .pointer (some (⟨g2, 0, none⟩))), (131, .bool true)] (by kernel_rfl) ?_
                  refine leJ (true) ⟨hp37.symm, (H.pull 1 rfl)⟩ (by kernel_rfl)
                · rw [hb45]
                  refine seg 1 [.op [1, 0, 0] 49, .le 0, .co [1, 0, 1], .co [1, 1]] [(2, .pointer (some (⟨g1, 0, none⟩))), (3, .pointer (some (⟨g2, 0, none⟩))), (53, .bool false), (54, .pointer (some (⟨g1, 7, none⟩)))] (by kernel_rfl) ?_
                  refine st (ldR (some 55) 3 (⟨g1, 7, none⟩) (.int .i64 a.Size) (by kernel_rfl) (by kernel_rfl) (H.cellB 1 rfl rfl) ?_)
                  refine seg 1 [.op [1, 0, 0] 51, .le 0, .co [1, 0, 1], .co [1, 1]] [(2, .pointer (some (⟨g1, 0, none⟩))), (3, .pointer (some (⟨g2, 0, none⟩))), (53, .bool false), (55, .int .i64 a.Size), (56, .pointer (some (⟨g2, 7, none⟩)))] (by kernel_rfl) ?_
                  refine st (ldR (some 57) 3 (⟨g2, 7, none⟩) (.int .i64 b.Size) (by kernel_rfl) (by kernel_rfl) (H.cellB 0 rfl rfl) ?_)
                  refine seg 3 [.op [1, 0, 0] 55, .le 0, .co [1, 0, 1], .co [1, 1]] [(2, .pointer (some (⟨g1, 0, none⟩))), (3, .pointer (some (⟨g2, 0, none⟩))), (60, .bool (a.Size != b.Size))] (by kernel_rfl) ?_
                  rcases condT hp37 with ⟨hb46, hp37⟩ | ⟨hb46, hp37⟩
                  · rw [hb46]
                    refine seg 72 [.le 0, .co [1, 0, 1], .co [1, 1]] [(2, .pointer (some (⟨g1, 0, none⟩))), (3, .pointer (some (⟨g2, 0, none⟩))), (131, .bool true)] (by kernel_rfl) ?_
                    refine leJ (true) ⟨hp37.symm, (H.pull 1 rfl)⟩ (by kernel_rfl)
                  · rw [hb46]
                    refine seg 1 [.op [1, 0, 0] 56, .le 0, .co [1, 0, 1], .co [1, 1]] [(2, .pointer (some (⟨g1, 0, none⟩))), (3, .pointer (some (⟨g2, 0, none⟩))), (60, .bool false), (61, .pointer (some (⟨g1, 8, none⟩)))] (by kernel_rfl) ?_
                    refine st (ldR (some 62) 3 (⟨g1, 8, none⟩) (.int .i64 a.Start) (by kernel_rfl) (by kernel_rfl) (H.cellB 1 rfl rfl) ?_)
                    refine seg 1 [.op [1, 0, 0] 58, .le 0, .co [1, 0, 1], .co [1, 1]] [(2, .pointer (some (⟨g1, 0, none⟩))), (3, .pointer (some (⟨g2, 0, none⟩))), (60, .bool false), (62, .int .i64 a.Start), (63, .pointer (some (⟨g2, 8, none⟩)))] (by kernel_rfl) ?_
                    refine st (ldR (some 64) 3 (⟨g2, 8, none⟩) (.int .i64 b.Start) (by kernel_rfl) (by kernel_rfl) (H.cellB 0 rfl rfl) ?_)
                    refine seg 3 [.op [1, 0, 0] 62, .le 0, .co [1, 0, 1], .co [1, 1]] [(2, .pointer (some (⟨g1, 0, none⟩))), (3, .pointer (some (⟨g2, 0, none⟩))), (67, .bool (a.Start != b.Start))] (by kernel_rfl) ?_
                    rcases condT hp37 with ⟨hb47, hp37⟩ | ⟨hb47, hp37⟩
                    · rw [hb47]
                      refine seg 65 [.le 0, .co [1, 0, 1], .co [1, 1]] [(2, .pointer (some (⟨g1, 0, none⟩))), (3, .pointer (some (⟨g2, 0, none⟩))), (131, .bool true)] (by kernel_rfl) ?_
                      refine leJ (true) ⟨hp37.symm, (H.pull 1 rfl)⟩ (by kernel_rfl)
                    · rw [hb47]
                      refine seg 1 [.op [1, 0, 0] 63, .le 0, .co [1, 0, 1], .co [1, 1]] [(2, .pointer (some (⟨g1, 0, none⟩))), (3, .pointer (some (⟨g2, 0, none⟩))), (67, .bool false), (68, .pointer (some (⟨g1, 10, none⟩)))] (by kernel_rfl) ?_
                      refine st (ldR (some 69) 3 (⟨g1, 10, none⟩) (.int .i64 a.Frag) (by kernel_rfl) (by kernel_rfl) (H.cellB 1 rfl rfl) ?_)
                      refine seg 1 [.op [1, 0, 0] 65, .le 0, .co [1, 0, 1], .co [1, 1]] [(2, .pointer (some (⟨g1, 0, none⟩))), (3, .pointer (some (⟨g2, 0, none⟩))), (67, .bool false), (69, .int .i64 a.Frag), (70, .pointer (some (⟨g2, 10, none⟩)))] (by kernel_rfl) ?_
                      refine st (ldR (some 71) 3 (⟨g2, 10, none⟩) (.int .i64 b.Frag) (by kernel_rfl) (by kernel_rfl) (H.cellB 0 rfl rfl) ?_)
                      refine seg 3 [.op [1, 0, 0] 69, .le 0, .co [1, 0, 1], .co [1, 1]] [(2, .pointer (some (⟨g1, 0, none⟩))), (3, .pointer (some (⟨g2, 0, none⟩))), (74, .bool (a.Frag != b.Frag))] (by kernel_rfl) ?_
                      rcases condT hp37 with ⟨hb48, hp37⟩ | ⟨hb48, hp37⟩
                      · rw [hb48]
                        refine seg 58 [.le 0, .co [1, 0, 1], .co [1, 1]] [(2, .pointer (some (⟨g1, 0, none⟩))), (3, .pointer (some (⟨g2, 0, none⟩))), (131, .bool true)] (by kernel_rfl) ?_
                        refine leJ (true) ⟨hp37.symm, (H.pull 1 rfl)⟩ (by kernel_rfl)
                      · rw [hb48]
                        refine seg 1 [.op [1, 0, 0] 70, .le 0, .co [1, 0, 1], .co [1, 1]] [(2, .pointer (some (⟨g1, 0, none⟩))), (3, .pointer (some (⟨g2, 0, none⟩))), (74, .bool false), (75, .pointer (some (⟨g1, 11, none⟩)))] (by kernel_rfl) ?_
                        refine st (ldR (some 76) 3 (⟨g1, 11, none⟩) (.int .i64 a.Off) (by kernel_rfl) (by kernel_rfl) (H.cellB 1 rfl rfl) ?_)
                        refine seg 1 [.op [1, 0, 0] 72, .le 0, .co [1, 0, 1], .co [1, 1]] [(2, .pointer (some (⟨g1, 0, none⟩))), (3, .pointer (some (⟨g2, 0, none⟩))), (74, .bool false), (76, .int .i64 a.Off), (77, .pointer (some (⟨g2, 11, none⟩)))] (by kernel_rfl) ?_
                        refine st (ldR (some 78) 3 (⟨g2, 11, none⟩) (.int .i64 b.Off) (by kernel_rfl) (by kernel_rfl) (H.cellB 0 rfl rfl) ?_)
                        refine seg 3 [.op [1, 0, 0] 76, .le 0, .co [1, 0, 1], .co [1, 1]] [(2, .pointer (some (⟨g1, 0, none⟩))), (3, .pointer (some (⟨g2, 0, none⟩))), (81, .bool (a.Off != b.Off))] (by kernel_rfl) ?_
                        rcases condT hp37 with ⟨hb49, hp37⟩ | ⟨hb49, hp37⟩
                        · rw [hb49]
                          refine seg 51 [.le 0, .co [1, 0, 1], .co [1, 1]] [(2, .pointer (some (⟨g1, 0, none⟩))), (3, .pointer (some (⟨g2, 0, none⟩))), (131, .bool true)] (by kernel_rfl) ?_
                          refine leJ (true) ⟨hp37.symm, (H.pull 1 rfl)⟩ (by kernel_rfl)
                        · rw [hb49]
                          refine seg 1 [.op [1, 0, 0] 77, .le 0, .co [1, 0, 1], .co [1, 1]] [(2, .pointer (some (⟨g1, 0, none⟩))), (3, .pointer (some (⟨g2, 0, none⟩))), (81, .bool false), (82, .pointer (some (⟨g1, 12, none⟩)))] (by kernel_rfl) ?_
                          refine st (ldR (some 83) 3 (⟨g1, 12, none⟩) (.int .i64 a.Tail) (by kernel_rfl) (by kernel_rfl) (H.cellB 1 rfl rfl) ?_)
                          refine seg 1 [.op [1, 0, 0] 79, .le 0, .co [1, 0, 1], .co [1, 1]] [(2, .pointer (some (⟨g1, 0, none⟩))), (3, .pointer (some (⟨g2, 0, none⟩))), (81, .bool false), (83, .int .i64 a.Tail), (84, .pointer (some (⟨g2, 12, none⟩)))] (by kernel_rfl) ?_
                          refine st (ldR (some 85) 3 (⟨g2, 12, none⟩) (.int .i64 b.Tail) (by kernel_rfl) (by kernel_rfl) (H.cellB 0 rfl rfl) ?_)
                          refine seg 3 [.op [1, 0, 0] 83, .le 0, .co [1, 0, 1], .co [1, 1]] [(2, .pointer (some (⟨g1, 0, none⟩))), (3, .pointer (some (⟨g2, 0, none⟩))), (88, .bool (a.Tail != b.Tail))] (by kernel_rfl) ?_
                          rcases condT hp37 with ⟨hb50, hp37⟩ | ⟨hb50, hp37⟩
                          · rw [hb50]
                            refine seg 44 [.le 0, .co [1, 0, 1], .co [1, 1]] [(2, .pointer (some (⟨g1, 0, none⟩))), (3, .pointer (some (⟨g2, 0, none⟩))), (131, .bool true)] (by kernel_rfl) ?_
                            refine leJ (true) ⟨hp37.symm, (H.pull 1 rfl)⟩ (by kernel_rfl)
                          · rw [hb50]
                            refine seg 1 [.op [1, 0, 0] 84, .le 0, .co [1, 0, 1], .co [1, 1]] [(2, .pointer (some (⟨g1, 0, none⟩))), (3, .pointer (some (⟨g2, 0, none⟩))), (88, .bool false), (89, .pointer (some (⟨g1, 13, none⟩)))] (by kernel_rfl) ?_
                            refine st (ldR (some 90) 3 (⟨g1, 13, none⟩) (.int .i64 a.Dir) (by kernel_rfl) (by kernel_rfl) (H.cellB 1 rfl rfl) ?_)
                            refine seg 1 [.op [1, 0, 0] 86, .le 0, .co [1, 0, 1], .co [1, 1]] [(2, .pointer (some (⟨g1, 0, none⟩))), (3, .pointer (some (⟨g2, 0, none⟩))), (88, .bool false), (90, .int .i64 a.Dir), (91, .pointer (some (⟨g2, 13, none⟩)))] (by kernel_rfl) ?_
                            refine st (ldR (some 92) 3 (⟨g2, 13, none⟩) (.int .i64 b.Dir) (by kernel_rfl) (by kernel_rfl) (H.cellB 0 rfl rfl) ?_)
                            refine seg 3 [.op [1, 0, 0] 90, .le 0, .co [1, 0, 1], .co [1, 1]] [(2, .pointer (some (⟨g1, 0, none⟩))), (3, .pointer (some (⟨g2, 0, none⟩))), (95, .bool (a.Dir != b.Dir))] (by kernel_rfl) ?_
                            rcases condT hp37 with ⟨hb51, hp37⟩ | ⟨hb51, hp37⟩
                            · rw [hb51]
                              refine seg 37 [.le 0, .co [1, 0, 1], .co [1, 1]] [(2, .pointer (some (⟨g1, 0, none⟩))), (3, .pointer (some (⟨g2, 0, none⟩))), (131, .bool true)] (by kernel_rfl) ?_
                              refine leJ (true) ⟨hp37.symm, (H.pull 1 rfl)⟩ (by kernel_rfl)
                            · rw [hb51]
                              refine seg 1 [.op [1, 0, 0] 91, .le 0, .co [1, 0, 1], .co [1, 1]] [(2, .pointer (some (⟨g1, 0, none⟩))), (3, .pointer (some (⟨g2, 0, none⟩))), (95, .bool false), (96, .pointer (some (⟨g1, 14, none⟩)))] (by kernel_rfl) ?_
                              refine st (ldR (some 97) 3 (⟨g1, 14, none⟩) (.int .i64 a.Bytes) (by kernel_rfl) (by kernel_rfl) (H.cellB 1 rfl rfl) ?_)
                              refine seg 1 [.op [1, 0, 0] 93, .le 0, .co [1, 0, 1], .co [1, 1]] [(2, .pointer (some (⟨g1, 0, none⟩))), (3, .pointer (some (⟨g2, 0, none⟩))), (95, .bool false), (97, .int .i64 a.Bytes), (98, .pointer (some (⟨g2, 14, none⟩)))] (by kernel_rfl) ?_
                              refine st (ldR (some 99) 3 (⟨g2, 14, none⟩) (.int .i64 b.Bytes) (by kernel_rfl) (by kernel_rfl) (H.cellB 0 rfl rfl) ?_)
                              refine seg 3 [.op [1, 0, 0] 97, .le 0, .co [1, 0, 1], .co [1, 1]] [(2, .pointer (some (⟨g1, 0, none⟩))), (3, .pointer (some (⟨g2, 0, none⟩))), (102, .bool (a.Bytes != b.Bytes))] (by kernel_rfl) ?_
                              rcases condT hp37 with ⟨hb52, hp37⟩ | ⟨hb52, hp37⟩
                              · rw [hb52]
                                refine seg 30 [.le 0, .co [1, 0, 1], .co [1, 1]] [(2, .pointer (some (⟨g1, 0, none⟩))), (3, .pointer (some (⟨g2, 0, none⟩))), (131, .bool true)] (by kernel_rfl) ?_
                                refine leJ (true) ⟨hp37.symm, (H.pull 1 rfl)⟩ (by kernel_rfl)
                              · rw [hb52]
                                refine seg 1 [.op [1, 0, 0] 98, .le 0, .co [1, 0, 1], .co [1, 1]] [(2, .pointer (some (⟨g1, 0, none⟩))), (3, .pointer (some (⟨g2, 0, none⟩))), (102, .bool false), (103, .pointer (some (⟨g1, 15, none⟩)))] (by kernel_rfl) ?_
                                refine st (ldR (some 104) 3 (⟨g1, 15, none⟩) (.int .i64 a.Parent) (by kernel_rfl) (by kernel_rfl) (H.cellB 1 rfl rfl) ?_)
                                refine seg 1 [.op [1, 0, 0] 100, .le 0, .co [1, 0, 1], .co [1, 1]] [(2, .pointer (some (⟨g1, 0, none⟩))), (3, .pointer (some (⟨g2, 0, none⟩))), (102, .bool false), (104, .int .i64 a.Parent), (105, .pointer (some (⟨g2, 15, none⟩)))] (by kernel_rfl) ?_
                                refine st (ldR (some 106) 3 (⟨g2, 15, none⟩) (.int .i64 b.Parent) (by kernel_rfl) (by kernel_rfl) (H.cellB 0 rfl rfl) ?_)
                                refine seg 3 [.op [1, 0, 0] 104, .le 0, .co [1, 0, 1], .co [1, 1]] [(2, .pointer (some (⟨g1, 0, none⟩))), (3, .pointer (some (⟨g2, 0, none⟩))), (109, .bool (a.Parent != b.Parent))] (by kernel_rfl) ?_
                                rcases condT hp37 with ⟨hb53, hp37⟩ | ⟨hb53, hp37⟩
                                · rw [hb53]
                                  refine seg 23 [.le 0, .co [1, 0, 1], .co [1, 1]] [(2, .pointer (some (⟨g1, 0, none⟩))), (3, .pointer (some (⟨g2, 0, none⟩))), (131, .bool true)] (by kernel_rfl) ?_
                                  refine leJ (true) ⟨hp37.symm, (H.pull 1 rfl)⟩ (by kernel_rfl)
                                · rw [hb53]
                                  refine seg 1 [.op [1, 0, 0] 105, .le 0, .co [1, 0, 1], .co [1, 1]] [(2, .pointer (some (⟨g1, 0, none⟩))), (3, .pointer (some (⟨g2, 0, none⟩))), (109, .bool false), (110, .pointer (some (⟨g1, 16, none⟩)))] (by kernel_rfl) ?_
                                  refine st (ldR (some 111) 9 (⟨g1, 16, none⟩) (.string ⟨a.Target.toArray⟩) (by kernel_rfl) (by kernel_rfl) (H.cellB 1 rfl rfl) ?_)
                                  refine seg 1 [.op [1, 0, 0] 107, .le 0, .co [1, 0, 1], .co [1, 1]] [(2, .pointer (some (⟨g1, 0, none⟩))), (3, .pointer (some (⟨g2, 0, none⟩))), (109, .bool false), (111, .string ⟨a.Target.toArray⟩), (112, .pointer (some (⟨g2, 16, none⟩)))] (by kernel_rfl) ?_
                                  refine st (ldR (some 113) 9 (⟨g2, 16, none⟩) (.string ⟨b.Target.toArray⟩) (by kernel_rfl) (by kernel_rfl) (H.cellB 0 rfl rfl) ?_)
                                  refine seg 3 [.op [1, 0, 0] 111, .le 0, .co [1, 0, 1], .co [1, 1]] [(2, .pointer (some (⟨g1, 0, none⟩))), (3, .pointer (some (⟨g2, 0, none⟩))), (116, .bool (!((ByteArray.toList ⟨a.Target.toArray⟩) == (ByteArray.toList ⟨b.Target.toArray⟩))))] (by kernel_rfl) ?_
                                  rw [sne_raw a.Target b.Target]
                                  rcases condT hp37 with ⟨hb54, hp37⟩ | ⟨hb54, hp37⟩
                                  · rw [hb54]
                                    refine seg 16 [.le 0, .co [1, 0, 1], .co [1, 1]] [(2, .pointer (some (⟨g1, 0, none⟩))), (3, .pointer (some (⟨g2, 0, none⟩))), (131, .bool true)] (by kernel_rfl) ?_
                                    refine leJ (true) ⟨hp37.symm, (H.pull 1 rfl)⟩ (by kernel_rfl)
                                  · rw [hb54]
                                    refine seg 1 [.op [1, 0, 0] 112, .le 0, .co [1, 0, 1], .co [1, 1]] [(2, .pointer (some (⟨g1, 0, none⟩))), (3, .pointer (some (⟨g2, 0, none⟩))), (116, .bool false), (117, .pointer (some (⟨g1, 17, none⟩)))] (by kernel_rfl) ?_
                                    refine st (ldR (some 118) 3 (⟨g1, 17, none⟩) (.int .i64 a.Dev) (by kernel_rfl) (by kernel_rfl) (H.cellB 1 rfl rfl) ?_)
                                    refine seg 1 [.op [1, 0, 0] 114, .le 0, .co [1, 0, 1], .co [1, 1]] [(2, .pointer (some (⟨g1, 0, none⟩))), (3, .pointer (some (⟨g2, 0, none⟩))), (116, .bool false), (118, .int .i64 a.Dev), (119, .pointer (some (⟨g2, 17, none⟩)))] (by kernel_rfl) ?_
                                    refine st (ldR (some 120) 3 (⟨g2, 17, none⟩) (.int .i64 b.Dev) (by kernel_rfl) (by kernel_rfl) (H.cellB 0 rfl rfl) ?_)
                                    refine seg 3 [.op [1, 0, 0] 118, .le 0, .co [1, 0, 1], .co [1, 1]] [(2, .pointer (some (⟨g1, 0, none⟩))), (3, .pointer (some (⟨g2, 0, none⟩))), (123, .bool (a.Dev != b.Dev))] (by kernel_rfl) ?_
                                    rcases condT hp37 with ⟨hb55, hp37⟩ | ⟨hb55, hp37⟩
                                    · rw [hb55]
                                      refine seg 9 [.le 0, .co [1, 0, 1], .co [1, 1]] [(2, .pointer (some (⟨g1, 0, none⟩))), (3, .pointer (some (⟨g2, 0, none⟩))), (131, .bool true)] (by kernel_rfl) ?_
                                      refine leJ (true) ⟨hp37.symm, (H.pull 1 rfl)⟩ (by kernel_rfl)
                                    · rw [hb55]
                                      refine seg 1 [.op [1, 0, 0] 119, .le 0, .co [1, 0, 1], .co [1, 1]] [(2, .pointer (some (⟨g1, 0, none⟩))), (3, .pointer (some (⟨g2, 0, none⟩))), (123, .bool false), (124, .pointer (some (⟨g1, 9, none⟩)))] (by kernel_rfl) ?_
                                      refine st (ldR (some 125) 44 (⟨g1, 9, none⟩) (.slice A0_9 a.Words.length c0_9) (by kernel_rfl) (by kernel_rfl) (H.cellB 1 rfl rfl) ?_)
                                      refine seg 2 [.op [1, 0, 0] 122, .le 0, .co [1, 0, 1], .co [1, 1]] [(2, .pointer (some (⟨g1, 0, none⟩))), (3, .pointer (some (⟨g2, 0, none⟩))), (123, .bool false), (126, .int .i64 (a.Words.length : Int)), (127, .pointer (some (⟨g2, 9, none⟩)))] (by kernel_rfl) ?_
                                      refine st (ldR (some 128) 44 (⟨g2, 9, none⟩) (.slice A1_9 b.Words.length c1_9) (by kernel_rfl) (by kernel_rfl) (H.cellB 0 rfl rfl) ?_)
                                      refine seg 4 [.le 0, .co [1, 0, 1], .co [1, 1]] [(2, .pointer (some (⟨g1, 0, none⟩))), (3, .pointer (some (⟨g2, 0, none⟩))), (131, .bool ((a.Words.length : Int) != (b.Words.length : Int)))] (by kernel_rfl) ?_
                                      refine leJ (((a.Words.length : Int) != (b.Words.length : Int))) ⟨hp37.symm, (H.pull 1 rfl)⟩ (by kernel_rfl)
  rintro t wj37 ⟨hy37, H⟩
  rw [hy37] at hf
  rcases condT hf with ⟨hb57, hf⟩ | ⟨hb57, hf⟩
  · rw [hb57]
    refine seg 5 [.co [1, 0, 1, 0, 1], .co [1, 1]] [(4, .bool false)] (by kernel_rfl) ?_
    refine retR [4] [.bool false] (by kernel_rfl) (by kernel_rfl) (by kernel_rfl) ?_
    have hret := (Option.some.inj hf)
    subst hret
    exact ⟨_, rfl, rfl, H.scalar⟩
  · rw [hb57]
    refine seg 7 [.co [1, 1, 0, 1], .co [1, 1, 1]] [(2, .pointer (some (⟨g1, 0, none⟩))), (3, .pointer (some (⟨g2, 0, none⟩))), (5, .int .i64 0)] (by kernel_rfl) ?_
    obtain ⟨y107, hp107, hfl107, hfr107⟩ := bndE hf
    refine joinR 0 (fun (x : Unit) => []) (fun (x : Unit) (wj107 : World) => y107 = .inl () ∧ St w noF m m [] wj107) (by kernel_rfl) ?_ ?_
    · refine seg 1 [.co [1, 1, 0, 1, 0], .bl 0, .le 0, .co [1, 1, 1]] [(2, .pointer (some (⟨g1, 0, none⟩))), (3, .pointer (some (⟨g2, 0, none⟩))), (5, .int .i64 0)] (by kernel_rfl) ?_
      obtain ⟨nn123, hR123⟩ := loopO_iff.1 hp107
      refine loopR 1 (fun (x : Nat × Nat) => [(2, .pointer (some (⟨g1, 0, none⟩))), (3, .pointer (some (⟨g2, 0, none⟩))), (5, .int .i64 (x.2 : Int))]) (fun (x : Nat × Nat) (wl123 : World) => iter (fun s => ref15_Same_l1 a b s) x.1 x.2 = some y107 ∧ St w noF m m [blkI g1 [.int .i64 a.Kind, .int .i64 a.Mode, .int .i64 a.Uid, .int .i64 a.Gid, .int .i64 a.Time, .int .i64 a.Links, .int .i64 a.Attrs, .int .i64 a.Size, .int .i64 a.Start, .slice A0_9 a.Words.length c0_9, .int .i64 a.Frag, .int .i64 a.Off, .int .i64 a.Tail, .int .i64 a.Dir, .int .i64 a.Bytes, .int .i64 a.Parent, .string ⟨a.Target.toArray⟩, .int .i64 a.Dev] 46, blkI g2 [.int .i64 b.Kind, .int .i64 b.Mode, .int .i64 b.Uid, .int .i64 b.Gid, .int .i64 b.Time, .int .i64 b.Links, .int .i64 b.Attrs, .int .i64 b.Size, .int .i64 b.Start, .slice A1_9 b.Words.length c1_9, .int .i64 b.Frag, .int .i64 b.Off, .int .i64 b.Tail, .int .i64 b.Dir, .int .i64 b.Bytes, .int .i64 b.Parent, .string ⟨b.Target.toArray⟩, .int .i64 b.Dev] 46] wl123) (fun (x : Nat × Nat) => x.1) (nn123, 0) (by kernel_rfl) (by kernel_rfl) (by kernel_rfl) ?_ ?_
      · exact ⟨hR123, H⟩
      rintro ⟨n123, i⟩ wl123 ⟨hR123, H⟩
      try dsimp only at hR123
      try dsimp only at H
      obtain ⟨nk123, q123, rfl, hb_123, hnx123, hfin123⟩ := iterE hR123
      replace hb_123 : ref15_Same_l1 a b i = some q123 := hb_123
      unfold ref15_Same_l1 at hb_123
      refine seg 5 [.op [1, 1, 0, 1, 0, 0, 0, 0] 2, .co [1, 1, 0, 1, 0, 0, 0, 1], .co [1, 1, 0, 1, 0, 0, 1], .le 1, .bl 0, .le 0, .co [1, 1, 1]] [(2, .pointer (some (⟨g1, 0, none⟩))), (3, .pointer (some (⟨g2, 0, none⟩))), (5, .int .i64 (i : Int)), (132, .int .i64 (i : Int)), (133, .pointer (some (⟨g1, 9, none⟩)))] (by kernel_rfl) ?_
      refine st (ldR (some 134) 44 (⟨g1, 9, none⟩) (.slice A0_9 a.Words.length c0_9) (by kernel_rfl) (by kernel_rfl) (H.cellB 0 rfl rfl) ?_)
      refine seg 3 [.co [1, 1, 0, 1, 0, 0, 0, 1], .co [1, 1, 0, 1, 0, 0, 1], .le 1, .bl 0, .le 0, .co [1, 1, 1]] [(2, .pointer (some (⟨g1, 0, none⟩))), (3, .pointer (some (⟨g2, 0, none⟩))), (5, .int .i64 (i : Int)), (136, .bool (decide ((i : Int) < (a.Words.length : Int))))] (by kernel_rfl) ?_
      rcases condT hb_123 with ⟨hb125, hb_123⟩ | ⟨hb125, hb_123⟩
      · rw [hb125]
        have p125 := of_decide_eq_true hb125
        refine seg 5 [.co [1, 1, 0, 1, 0, 0, 1, 0, 0, 0], .co [1, 1, 0, 1, 0, 0, 1, 0, 0, 1], .bl 1, .co [1, 1, 0, 1, 0, 0, 1, 1], .le 1, .bl 0, .le 0, .co [1, 1, 1]] [(2, .pointer (some (⟨g1, 0, none⟩))), (3, .pointer (some (⟨g2, 0, none⟩))), (5, .int .i64 (i : Int))] (by kernel_rfl) ?_
        obtain ⟨x_, h_x_, hb_123⟩ := bindE hb_123
        obtain ⟨x_1, h_x_1, hb_123⟩ := bindE hb_123
        have hst : statB (bodyOf Try.f33) [1, 1, 0, 1, 0, 0, 1, 0, 0, 0] = true := by kernel_rfl
        refine drawS (fun w' => Has m w' ∧ w'.heap[g1]? = some (.cells [.int .i64 a.Kind, .int .i64 a.Mode, .int .i64 a.Uid, .int .i64 a.Gid, .int .i64 a.Time, .int .i64 a.Links, .int .i64 a.Attrs, .int .i64 a.Size, .int .i64 a.Start, .slice A0_9 a.Words.length c0_9, .int .i64 a.Frag, .int .i64 a.Off, .int .i64 a.Tail, .int .i64 a.Dir, .int .i64 a.Bytes, .int .i64 a.Parent, .string ⟨a.Target.toArray⟩, .int .i64 a.Dev].toArray 46 (0, 0)) ∧ w'.heap[g2]? = some (.cells [.int .i64 b.Kind, .int .i64 b.Mode, .int .i64 b.Uid, .int .i64 b.Gid, .int .i64 b.Time, .int .i64 b.Links, .int .i64 b.Attrs, .int .i64 b.Size, .int .i64 b.Start, .slice A1_9 b.Words.length c1_9, .int .i64 b.Frag, .int .i64 b.Off, .int .i64 b.Tail, .int .i64 b.Dir, .int .i64 b.Bytes, .int .i64 b.Parent, .string ⟨b.Target.toArray⟩, .int .i64 b.Dev].toArray 46 (0, 0))) H (by kernel_rfl) (by kernel_rfl) ?_
        intro w130 H
        refine segD2 hst [0, 2, 5, 7] [0, 2, 5, 7] [(2, .pointer (some (⟨g1, 0, none⟩))), (3, .pointer (some (⟨g2, 0, none⟩))), (5, .int .i64 (i : Int)), (139, .pointer (some (⟨g1, 9, none⟩))), (141, .int .i64 (i : Int)), (144, .pointer (some (⟨g2, 9, none⟩))), (146, .int .i64 (i : Int))] (by kernel_rfl) ?_
        refine takeD2 (i := 1) (d := (some 140)) (s := vS (Instr.loadAt 44 (.pointer (some (⟨g1, 9, none⟩))))) (v := (.slice A0_9 a.Words.length c0_9)) hst (by kernel_rfl) (by kernel_rfl) (fun w' hw' => ld_run _ _ _ (by kernel_rfl) (blk_cell hw'.2.1 rfl)) ?_
        obtain ⟨ad131, _, ea131, rfl, hc131⟩ := s0_9.at_ h_x_ (by decide)
        refine takeD2 (i := 3) (d := (some 142)) (s := vS (Instr.indexAt 44 (.slice A0_9 a.Words.length c0_9) (.int .i64 (i : Int)))) (v := .pointer (some (ad131.add (i * 1)))) hst (by kernel_rfl) (by kernel_rfl) (fun w' hw' => idx_run 44 3 1 _ ad131 _ _ _ _ _ ea131 (by kernel_rfl) (by omega) (by have := (List.getElem?_eq_some_iff.1 h_x_).1; omega) rfl) ?_
        refine takeD2 (i := 4) (d := (some 143)) (s := vS (Instr.loadAt 3 (.pointer (some (ad131.add (i * 1)))))) (v := (.int .i64 x_)) hst (by kernel_rfl) (by kernel_rfl) (fun w' hw' => ld_run _ _ _ (by kernel_rfl) (hw'.1.cell (mc0 (hc131 0 _ rfl)))) ?_
        refine stD2 (i := 6) (by kernel_rfl) ⟨H.has, H.blk 0 rfl, H.blk 1 rfl⟩ (ldR (some 145) 44 (⟨g2, 9, none⟩) (.slice A1_9 b.Words.length c1_9) (by kernel_rfl) (by kernel_rfl) (H.cellB 1 rfl rfl) ?_)
        obtain ⟨ad132, _, ea132, rfl, hc132⟩ := s1_9.at_ h_x_1 (by decide)
        refine stD2 (i := 8) (by kernel_rfl) ⟨H.has, H.blk 0 rfl, H.blk 1 rfl⟩ (idxS (some 147) 44 3 1 A1_9 ad132 b.Words.length c1_9 .i64 (i : Int) ea132 (by kernel_rfl) (by kernel_rfl) (by omega) (by have := (List.getElem?_eq_some_iff.1 h_x_1).1; omega) ?_)
        refine stD2 (i := 9) (by kernel_rfl) ⟨H.has, H.blk 0 rfl, H.blk 1 rfl⟩ (ldR (some 148) 3 (ad132.add (i * 1)) (.int .i64 x_1) (by kernel_rfl) (by kernel_rfl) (H.cellI (mc0 (hc132 0 _ rfl))) ?_)
        refine segD2 hst [10] [0, 2, 5, 7, 1, 3, 4, 6, 8, 9, 10] [(2, .pointer (some (⟨g1, 0, none⟩))), (3, .pointer (some (⟨g2, 0, none⟩))), (5, .int .i64 (i : Int)), (149, .bool (x_ != x_1))] (by kernel_rfl) ?_
        refine endD2 (by kernel_rfl) ⟨H.has, H.blk 0 rfl, H.blk 1 rfl⟩ ?_
        rcases condT hb_123 with ⟨hb133, hb_123⟩ | ⟨hb133, hb_123⟩
        · rw [hb133]
          refine seg 5 [.co [1, 1, 0, 1, 0, 0, 1, 0, 0, 1, 0, 1], .bl 1, .co [1, 1, 0, 1, 0, 0, 1, 1], .le 1, .bl 0, .le 0, .co [1, 1, 1]] [(4, .bool false)] (by kernel_rfl) ?_
          refine retR [4] [.bool false] (by kernel_rfl) (by kernel_rfl) (by kernel_rfl) ?_
          have hret := (hfr107 _ (hfin123 _ (Option.some.inj hb_123).symm).symm)
          subst hret
          exact ⟨_, rfl, rfl, H.scalar⟩
        · rw [hb133]
          refine seg 8 [.le 1, .bl 0, .le 0, .co [1, 1, 1]] [(2, .pointer (some (⟨g1, 0, none⟩))), (3, .pointer (some (⟨g2, 0, none⟩))), (5, .int .i64 (IntKind.i64.wrap ((i : Int) + 1)))] (by kernel_rfl) ?_
          have := s0_9.bound
          rw [show IntKind.i64.wrap ((i : Int) + 1) = ((i : Int) + 1) from w64 (by omega)]
          refine leR (nk123, (i + 1)) (Nat.lt_succ_self _) ⟨hnx123 _ (Option.some.inj hb_123).symm, H⟩ (by kernel_rfl)
      · rw [hb125]
        have p125 := of_decide_eq_false hb125
        refine seg 2 [.le 0, .co [1, 1, 1]] [] (by kernel_rfl) ?_
        refine leR_up (k' := []) (by rfl) ?_
        refine leJ () ⟨(hfin123 _ (Option.some.inj hb_123).symm).symm, (St.takeN 0 H)⟩ (by kernel_rfl)
    rintro _ wj107 ⟨hy107, H⟩
    have hf := hfl107 _ hy107
    try dsimp only at hf
    refine seg 4 [.co [1, 1, 1, 1]] [(4, .bool true)] (by kernel_rfl) ?_
    refine retR [4] [.bool true] (by kernel_rfl) (by kernel_rfl) (by kernel_rfl) ?_
    have hret := (Option.some.inj hf)
    subst hret
    exact ⟨_, rfl, rfl, H.scalar⟩
theorem law15_InodeDecodes_c {m : Mem} {w : World} (hm : Has m w) (b : (List UInt8)) (A0_0 : Option Addr) (c0_0 : Nat) (s0_0 : SlI rU8 m A0_0 c0_0 b) (at_ : Int) {r : Bool} (hf : law15_InodeDecodes b at_ = some r) :
    Calls Try.prog 9 #[.slice A0_0 b.length c0_0, .int .i64 at_] w fun e w' => ∃ v, e = .returned v ∧ v = .bool r ∧ Ex w w' := by
  unfold law15_InodeDecodes at hf
  have H := St.start0 hm
  refine callsR Try.func9 (by kernel_rfl) (by kernel_rfl) ?_
  refine seg 11 [.co [1, 0, 1], .co [1, 1]] [(0, .slice A0_0 b.length c0_0), (1, .int .i64 at_), (14, .bool (decide ((b.length : Int) > 3000)))] (by kernel_rfl) ?_
  rcases condT hf with ⟨hb3, hf⟩ | ⟨hb3, hf⟩
  · rw [hb3]
    have p3 := of_decide_eq_true hb3
    refine seg 3 [.op [1, 0, 1, 0, 0] 0, .co [1, 0, 1, 0, 1], .co [1, 1]] [] (by kernel_rfl) ?_
    obtain ⟨live, h_live, hf⟩ := bindE hf
    refine st (callR (some 15) 23 #[] Try.call23 (law15_live_c H.has  h_live) (by kernel_rfl) ?_)
    rintro _ w4 ⟨rfl, hx4⟩
    replace H := H.ex hx4
    refine seg 2 [.co [1, 0, 1, 0, 1], .co [1, 1]] [(4, .bool live)] (by kernel_rfl) ?_
    refine retR [4] [.bool live] (by kernel_rfl) (by kernel_rfl) (by kernel_rfl) ?_
    have hret := (Option.some.inj hf)
    subst hret
    exact ⟨_, rfl, rfl, H.scalar⟩
  · rw [hb3]
    have p3 := of_decide_eq_false hb3
    refine seg 4 [.op [1, 1, 0] 0, .co [1, 1, 1]] [(0, .slice A0_0 b.length c0_0), (1, .int .i64 at_)] (by kernel_rfl) ?_
    refine st (newS (some 16) (fun g => .slice (some ⟨g, 0, none⟩) 0 0) [] 5 H (by kernel_rfl) ?_)
    intro g5 w5 H
    refine seg 1 [.op [1, 1, 0] 2, .co [1, 1, 1]] [(0, .slice A0_0 b.length c0_0), (1, .int .i64 at_), (16, .slice (some ⟨g5, 0, none⟩) 0 0), (17, .slice A0_0 b.length c0_0)] (by kernel_rfl) ?_
    have H := H.toRow (r := rU8) (l := ([] : List UInt8)) 0 rfl (Rows.u8.2 rfl) (Nat.le_of_ble_eq_true rfl)
    obtain ⟨xs6, hr6, hx6⟩ := s0_0.cs
    obtain ⟨b1, h_b1, hf⟩ := bindE hf
    refine st (appS (r := rU8) (some 18) 30 5 1 (.int .u8 0) 30 0 (some ⟨g5, 0, none⟩) A0_0 0 b.length c0_0 ([] : List UInt8) b b1 _ H rfl ⟨Try.underlying30, by kernel_rfl⟩ rfl (by decide) (by kernel_rfl) (hx6.cs H.has) hr6 rfl h_b1 (by decide) (by decide) ?_)
    intro A7 c7 w7 H
    refine seg 6 [.op [1, 1, 1, 0] 2, .co [1, 1, 1, 1]] [(0, .slice A0_0 b.length c0_0), (1, .int .i64 at_), (5, .slice A7 b1.length c7), (20, .slice A7 b1.length c7), (21, .int .i64 at_)] (by kernel_rfl) ?_
    replace H : St w noF m m [rowI rU8 5 A7 c7 b1] w7 := H
    obtain ⟨mf8, hsub8, hsf8, H⟩ := H.fixR 0 rfl
    obtain ⟨decode, h_decode, hf⟩ := bindE hf
    refine st (callR (some 22) 31 #[.slice A7 b1.length c7, .int .i64 at_] Try.call31 (inode_Decode_c H.has b1 A7 c7 hsf8 at_ h_decode) (by kernel_rfl) ?_)
    rintro _ w9 ⟨A9_0_9, c9_0_9, mk9, rfl, hS9, hs9_0, hl9_0⟩
    have hsub9 := hS9.sub
    replace H := H.call0 hS9
    refine seg 4 [.op [1, 1, 1, 0] 7, .co [1, 1, 1, 1]] [(0, .slice A0_0 b.length c0_0), (1, .int .i64 at_), (5, .slice A7 b1.length c7), (23, .agg #[.int .i64 decode.1.Kind, .int .i64 decode.1.Mode, .int .i64 decode.1.Uid, .int .i64 decode.1.Gid, .int .i64 decode.1.Time, .int .i64 decode.1.Links, .int .i64 decode.1.Attrs, .int .i64 decode.1.Size, .int .i64 decode.1.Start, .slice A9_0_9 decode.1.Words.length c9_0_9, .int .i64 decode.1.Frag, .int .i64 decode.1.Off, .int .i64 decode.1.Tail, .int .i64 decode.1.Dir, .int .i64 decode.1.Bytes, .int .i64 decode.1.Parent, .string ⟨decode.1.Target.toArray⟩, .int .i64 decode.1.Dev]), (24, .int .i64 decode.2.1), (25, .int .i64 decode.2.2)] (by kernel_rfl) ?_
    refine st (newS (some 6) (fun g => .pointer (some ⟨g, 0, none⟩)) [.int .i64 0, .int .i64 0, .int .i64 0, .int .i64 0, .int .i64 0, .int .i64 0, .int .i64 0, .int .i64 0, .int .i64 0, .slice none 0 0, .int .i64 0, .int .i64 0, .int .i64 0, .int .i64 0, .int .i64 0, .int .i64 0, .string ⟨([] : List UInt8).toArray⟩, .int .i64 0] 46 H (by kernel_rfl) ?_)
    intro g10 w10 H
    refine st (stAggS none 46 0 g10 0 [.int .i64 decode.1.Kind, .int .i64 decode.1.Mode, .int .i64 decode.1.Uid, .int .i64 decode.1.Gid, .int .i64 decode.1.Time, .int .i64 decode.1.Links, .int .i64 decode.1.Attrs, .int .i64 decode.1.Size, .int .i64 decode.1.Start, .slice A9_0_9 decode.1.Words.length c9_0_9, .int .i64 decode.1.Frag, .int .i64 decode.1.Off, .int .i64 decode.1.Tail, .int .i64 decode.1.Dir, .int .i64 decode.1.Bytes, .int .i64 decode.1.Parent, .string ⟨decode.1.Target.toArray⟩, .int .i64 decode.1.Dev] [.int .i64 0, .int .i64 0, .int .i64 0, .int .i64 0, .int .i64 0, .int .i64 0, .int .i64 0, .int .i64 0, .int .i64 0, .slice none 0 0, .int .i64 0, .int .i64 0, .int .i64 0, .int .i64 0, .int .i64 0, .int .i64 0, .string ⟨([] : List UInt8).toArray⟩, .int .i64 0] [.int .i64 decode.1.Kind, .int .i64 decode.1.Mode, .int .i64 decode.1.Uid, .int .i64 decode.1.Gid, .int .i64 decode.1.Time, .int .i64 decode.1.Links, .int .i64 decode.1.Attrs, .int .i64 decode.1.Size, .int .i64 decode.1.Start, .slice A9_0_9 decode.1.Words.length c9_0_9, .int .i64 decode.1.Frag, .int .i64 decode.1.Off, .int .i64 decode.1.Tail, .int .i64 decode.1.Dir, .int .i64 decode.1.Bytes, .int .i64 decode.1.Parent, .string ⟨decode.1.Target.toArray⟩, .int .i64 decode.1.Dev] 46 H rfl (by kernel_rfl) (by kernel_rfl) (by rfl) (of_decide_eq_true rfl) rfl ?_)
    intro w11 H
    refine seg 7 [.op [1, 1, 1, 1, 0] 2, .co [1, 1, 1, 1, 1]] [(0, .slice A0_0 b.length c0_0), (5, .slice A7 b1.length c7), (6, .pointer (some (⟨g10, 0, none⟩))), (7, .int .i64 decode.2.1), (8, .int .i64 decode.2.2), (27, .slice A0_0 b.length c0_0), (28, .int .i64 at_)] (by kernel_rfl) ?_
    obtain ⟨decode1, h_decode1, hf⟩ := bindE hf
    refine st (callR (some 29) 32 #[.slice A0_0 b.length c0_0, .int .i64 at_] Try.call32 (ref15_Decode_c H.has b A0_0 c0_0 (s0_0.mono (hsub8.trans hsub9)) at_ h_decode1) (by kernel_rfl) ?_)
    rintro _ w12 ⟨A12_0_9, c12_0_9, mk12, rfl, hS12, hs12_0, hl12_0⟩
    have hsub12 := hS12.sub
    replace H := H.call0 hS12
    refine seg 4 [.op [1, 1, 1, 1, 0] 7, .co [1, 1, 1, 1, 1]] [(0, .slice A0_0 b.length c0_0), (5, .slice A7 b1.length c7), (6, .pointer (some (⟨g10, 0, none⟩))), (7, .int .i64 decode.2.1), (8, .int .i64 decode.2.2), (30, .agg #[.int .i64 decode1.1.Kind, .int .i64 decode1.1.Mode, .int .i64 decode1.1.Uid, .int .i64 decode1.1.Gid, .int .i64 decode1.1.Time, .int .i64 decode1.1.Links, .int .i64 decode1.1.Attrs, .int .i64 decode1.1.Size, .int .i64 decode1.1.Start, .slice A12_0_9 decode1.1.Words.length c12_0_9, .int .i64 decode1.1.Frag, .int .i64 decode1.1.Off, .int .i64 decode1.1.Tail, .int .i64 decode1.1.Dir, .int .i64 decode1.1.Bytes, .int .i64 decode1.1.Parent, .string ⟨decode1.1.Target.toArray⟩, .int .i64 decode1.1.Dev]), (31, .int .i64 decode1.2.1), (32, .int .i64 decode1.2.2)] (by kernel_rfl) ?_
    replace H : St w noF m mk12 [blkI g10 [.int .i64 decode.1.Kind, .int .i64 decode.1.Mode, .int .i64 decode.1.Uid, .int .i64 decode.1.Gid, .int .i64 decode.1.Time, .int .i64 decode.1.Links, .int .i64 decode.1.Attrs, .int .i64 decode.1.Size, .int .i64 decode.1.Start, .slice A9_0_9 decode.1.Words.length c9_0_9, .int .i64 decode.1.Frag, .int .i64 decode.1.Off, .int .i64 decode.1.Tail, .int .i64 decode.1.Dir, .int .i64 decode.1.Bytes, .int .i64 decode.1.Parent, .string ⟨decode.1.Target.toArray⟩, .int .i64 decode.1.Dev] 46] w12 := H
    refine st (newS (some 9) (fun g => .pointer (some ⟨g, 0, none⟩)) [.int .i64 0, .int .i64 0, .int .i64 0, .int .i64 0, .int .i64 0, .int .i64 0, .int .i64 0, .int .i64 0, .int .i64 0, .slice none 0 0, .int .i64 0, .int .i64 0, .int .i64 0, .int .i64 0, .int .i64 0, .int .i64 0, .string ⟨([] : List UInt8).toArray⟩, .int .i64 0] 46 H (by kernel_rfl) ?_)
    intro g13 w13 H
    refine st (stAggS none 46 0 g13 0 [.int .i64 decode1.1.Kind, .int .i64 decode1.1.Mode, .int .i64 decode1.1.Uid, .int .i64 decode1.1.Gid, .int .i64 decode1.1.Time, .int .i64 decode1.1.Links, .int .i64 decode1.1.Attrs, .int .i64 decode1.1.Size, .int .i64 decode1.1.Start, .slice A12_0_9 decode1.1.Words.length c12_0_9, .int .i64 decode1.1.Frag, .int .i64 decode1.1.Off, .int .i64 decode1.1.Tail, .int .i64 decode1.1.Dir, .int .i64 decode1.1.Bytes, .int .i64 decode1.1.Parent, .string ⟨decode1.1.Target.toArray⟩, .int .i64 decode1.1.Dev] [.int .i64 0, .int .i64 0, .int .i64 0, .int .i64 0, .int .i64 0, .int .i64 0, .int .i64 0, .int .i64 0, .int .i64 0, .slice none 0 0, .int .i64 0, .int .i64 0, .int .i64 0, .int .i64 0, .int .i64 0, .int .i64 0, .string ⟨([] : List UInt8).toArray⟩, .int .i64 0] [.int .i64 decode1.1.Kind, .int .i64 decode1.1.Mode, .int .i64 decode1.1.Uid, .int .i64 decode1.1.Gid, .int .i64 decode1.1.Time, .int .i64 decode1.1.Links, .int .i64 decode1.1.Attrs, .int .i64 decode1.1.Size, .int .i64 decode1.1.Start, .slice A12_0_9 decode1.1.Words.length c12_0_9, .int .i64 decode1.1.Frag, .int .i64 decode1.1.Off, .int .i64 decode1.1.Tail, .int .i64 decode1.1.Dir, .int .i64 decode1.1.Bytes, .int .i64 decode1.1.Parent, .string ⟨decode1.1.Target.toArray⟩, .int .i64 decode1.1.Dev] 46 H rfl (by kernel_rfl) (by kernel_rfl) (by rfl) (of_decide_eq_true rfl) rfl ?_)
    intro w14 H
    refine seg 5 [.op [1, 1, 1, 1, 1, 0] 0, .co [1, 1, 1, 1, 1, 1]] [(0, .slice A0_0 b.length c0_0), (5, .slice A7 b1.length c7), (6, .pointer (some (⟨g10, 0, none⟩))), (7, .int .i64 decode.2.1), (8, .int .i64 decode.2.2), (9, .pointer (some (⟨g13, 0, none⟩))), (10, .int .i64 decode1.2.1), (11, .int .i64 decode1.2.2)] (by kernel_rfl) ?_
    refine st (ldAggR (some 33) 46 (⟨g10, 0, none⟩) [.int .i64 decode.1.Kind, .int .i64 decode.1.Mode, .int .i64 decode.1.Uid, .int .i64 decode.1.Gid, .int .i64 decode.1.Time, .int .i64 decode.1.Links, .int .i64 decode.1.Attrs, .int .i64 decode.1.Size, .int .i64 decode.1.Start, .slice A9_0_9 decode.1.Words.length c9_0_9, .int .i64 decode.1.Frag, .int .i64 decode.1.Off, .int .i64 decode.1.Tail, .int .i64 decode.1.Dir, .int .i64 decode.1.Bytes, .int .i64 decode.1.Parent, .string ⟨decode.1.Target.toArray⟩, .int .i64 decode.1.Dev] (by kernel_rfl) (by kernel_rfl) (H.cellsB 1 rfl (by rfl)) ?_)
    refine st (ldAggR (some 34) 46 (⟨g13, 0, none⟩) [.int .i64 decode1.1.Kind, .int .i64 decode1.1.Mode, .int .i64 decode1.1.Uid, .int .i64 decode1.1.Gid, .int .i64 decode1.1.Time, .int .i64 decode1.1.Links, .int .i64 decode1.1.Attrs, .int .i64 decode1.1.Size, .int .i64 decode1.1.Start, .slice A12_0_9 decode1.1.Words.length c12_0_9, .int .i64 decode1.1.Frag, .int .i64 decode1.1.Off, .int .i64 decode1.1.Tail, .int .i64 decode1.1.Dir, .int .i64 decode1.1.Bytes, .int .i64 decode1.1.Parent, .string ⟨decode1.1.Target.toArray⟩, .int .i64 decode1.1.Dev] (by kernel_rfl) (by kernel_rfl) (H.cellsB 0 rfl (by rfl)) ?_)
    obtain ⟨same, h_same, hf⟩ := bindE hf
    refine st (callR (some 35) 33 #[.agg #[.int .i64 decode.1.Kind, .int .i64 decode.1.Mode, .int .i64 decode.1.Uid, .int .i64 decode.1.Gid, .int .i64 decode.1.Time, .int .i64 decode.1.Links, .int .i64 decode.1.Attrs, .int .i64 decode.1.Size, .int .i64 decode.1.Start, .slice A9_0_9 decode.1.Words.length c9_0_9, .int .i64 decode.1.Frag, .int .i64 decode.1.Off, .int .i64 decode.1.Tail, .int .i64 decode.1.Dir, .int .i64 decode.1.Bytes, .int .i64 decode.1.Parent, .string ⟨decode.1.Target.toArray⟩, .int .i64 decode.1.Dev], .agg #[.int .i64 decode1.1.Kind, .int .i64 decode1.1.Mode, .int .i64 decode1.1.Uid, .int .i64 decode1.1.Gid, .int .i64 decode1.1.Time, .int .i64 decode1.1.Links, .int .i64 decode1.1.Attrs, .int .i64 decode1.1.Size, .int .i64 decode1.1.Start, .slice A12_0_9 decode1.1.Words.length c12_0_9, .int .i64 decode1.1.Frag, .int .i64 decode1.1.Off, .int .i64 decode1.1.Tail, .int .i64 decode1.1.Dir, .int .i64 decode1.1.Bytes, .int .i64 decode1.1.Parent, .string ⟨decode1.1.Target.toArray⟩, .int .i64 decode1.1.Dev]] Try.call33 (ref15_Same_c H.has decode.1 A9_0_9 c9_0_9 (hs9_0.mono hsub12) hl9_0 decode1.1 A12_0_9 c12_0_9 hs12_0 hl12_0 h_same) (by kernel_rfl) ?_)
    rintro _ w24 ⟨rfl, hx24⟩
    replace H := H.ex hx24
    refine seg 1 [.op [1, 1, 1, 1, 1, 0] 4, .co [1, 1, 1, 1, 1, 1]] [(0, .slice A0_0 b.length c0_0), (5, .slice A7 b1.length c7), (7, .int .i64 decode.2.1), (8, .int .i64 decode.2.2), (10, .int .i64 decode1.2.1), (11, .int .i64 decode1.2.2), (36, .bool same)] (by kernel_rfl) ?_
    rcases condT hf with ⟨hb25, hf⟩ | ⟨hb25, hf⟩
    · rw [hb25]
      refine seg 5 [.op [1, 1, 1, 1, 1, 0] 9, .co [1, 1, 1, 1, 1, 1]] [(0, .slice A0_0 b.length c0_0), (5, .slice A7 b1.length c7), (8, .int .i64 decode.2.2), (11, .int .i64 decode1.2.2), (41, .bool (decode.2.1 == decode1.2.1))] (by kernel_rfl) ?_
      rcases condT hf with ⟨hb26, hf⟩ | ⟨hb26, hf⟩
      · rw [hb26]
        refine seg 1 [.op [1, 1, 1, 1, 1, 0] 10, .co [1, 1, 1, 1, 1, 1]] [(0, .slice A0_0 b.length c0_0), (5, .slice A7 b1.length c7), (11, .int .i64 decode1.2.2), (41, .bool true), (42, .int .i64 decode.2.2)] (by kernel_rfl) ?_
        refine st (callR (some 43) 26 #[.int .i64 decode.2.2] Try.call26 (law15_num_c H.has decode.2.2) (by kernel_rfl) ?_)
        rintro _ w27 ⟨rfl, hx27⟩
        replace H := H.ex hx27
        refine seg 4 [.op [1, 1, 1, 1, 1, 0] 15, .co [1, 1, 1, 1, 1, 1]] [(0, .slice A0_0 b.length c0_0), (5, .slice A7 b1.length c7), (47, .bool ((law15_num decode.2.2) == decode1.2.2))] (by kernel_rfl) ?_
        rcases condT hf with ⟨hb28, hf⟩ | ⟨hb28, hf⟩
        · rw [hb28]
          refine seg 1 [.op [1, 1, 1, 1, 1, 0] 16, .co [1, 1, 1, 1, 1, 1]] [(0, .slice A0_0 b.length c0_0), (47, .bool true), (48, .slice A7 b1.length c7)] (by kernel_rfl) ?_
          refine st (b2sS (some 49) 30 9 5 A7 c7 b1 Try.underlying30 Try.underlying5 Try.underlying9 (by kernel_rfl) ((hsf8.mono (hsub9.trans hsub12)).bytes.cs H.has) ?_)
          have hl29 : b1.length ≤ 9223372036854775807 := hsf8.bound
          refine seg 1 [.op [1, 1, 1, 1, 1, 0] 18, .co [1, 1, 1, 1, 1, 1]] [(47, .bool true), (49, .string ⟨b1.toArray⟩), (50, .slice A0_0 b.length c0_0)] (by kernel_rfl) ?_
          refine st (b2sS (some 51) 30 9 5 A0_0 c0_0 b Try.underlying30 Try.underlying5 Try.underlying9 (by kernel_rfl) ((s0_0.mono ((hsub8.trans hsub9).trans hsub12)).bytes.cs H.has) ?_)
          have hl30 : b.length ≤ 9223372036854775807 := s0_0.bound
          refine seg 3 [.op [1, 1, 1, 1, 1, 0] 22, .co [1, 1, 1, 1, 1, 1]] [(54, .bool ((ByteArray.toList ⟨b1.toArray⟩) == (ByteArray.toList ⟨b.toArray⟩)))] (by kernel_rfl) ?_
          rw [seq_raw b1 b]
          rcases condT hf with ⟨hb31, hf⟩ | ⟨hb31, hf⟩
          · rw [hb31]
            obtain ⟨live1, h_live1, hf⟩ := bindE hf
            refine st (callR (some 55) 23 #[] Try.call23 (law15_live_c H.has  h_live1) (by kernel_rfl) ?_)
            rintro _ w32 ⟨rfl, hx32⟩
            replace H := H.ex hx32
            refine seg 3 [.co [1, 1, 1, 1, 1, 1]] [(4, .bool live1)] (by kernel_rfl) ?_
            refine retR [4] [.bool live1] (by kernel_rfl) (by kernel_rfl) (by kernel_rfl) ?_
            have hret := (Option.some.inj hf)
            subst hret
            exact ⟨_, rfl, rfl, H.scalar⟩
          · rw [hb31]
            refine seg 4 [.co [1, 1, 1, 1, 1, 1]] [(4, .bool false)] (by kernel_rfl) ?_
            refine retR [4] [.bool false] (by kernel_rfl) (by kernel_rfl) (by kernel_rfl) ?_
            have hret := (Option.some.inj hf)
            subst hret
            exact ⟨_, rfl, rfl, H.scalar⟩
        · rw [hb28]
          refine seg 11 [.co [1, 1, 1, 1, 1, 1]] [(4, .bool false)] (by kernel_rfl) ?_
          refine retR [4] [.bool false] (by kernel_rfl) (by kernel_rfl) (by kernel_rfl) ?_
          have hret := (Option.some.inj hf)
          subst hret
          exact ⟨_, rfl, rfl, H.scalar⟩
      · rw [hb26]
        refine seg 17 [.co [1, 1, 1, 1, 1, 1]] [(4, .bool false)] (by kernel_rfl) ?_
        refine retR [4] [.bool false] (by kernel_rfl) (by kernel_rfl) (by kernel_rfl) ?_
        have hret := (Option.some.inj hf)
        subst hret
        exact ⟨_, rfl, rfl, H.scalar⟩
    · rw [hb25]
      refine seg 22 [.co [1, 1, 1, 1, 1, 1]] [(4, .bool false)] (by kernel_rfl) ?_
      refine retR [4] [.bool false] (by kernel_rfl) (by kernel_rfl) (by kernel_rfl) ?_
      have hret := (Option.some.inj hf)
      subst hret
      exact ⟨_, rfl, rfl, H.scalar⟩
theorem law15_InodeBack_c {m : Mem} {w : World} (hm : Has m w) (n_ : TApiInode) (A0_9 : Option Addr) (c0_9 : Nat) (s0_9 : SlI rI64 m A0_9 c0_9 n_.Words) (l0_16 : n_.Target.length ≤ 9223372036854775807) (a : (List UInt8)) (A1_0 : Option Addr) (c1_0 : Nat) (s1_0 : SlI rU8 m A1_0 c1_0 a) (b : (List UInt8)) (A2_0 : Option Addr) (c2_0 : Nat) (s2_0 : SlI rU8 m A2_0 c2_0 b) {r : Bool} (hf : law15_InodeBack n_ a b = some r) :
    Calls Try.prog 10 #[.agg #[.int .i64 n_.Kind, .int .i64 n_.Mode, .int .i64 n_.Uid, .int .i64 n_.Gid, .int .i64 n_.Time, .int .i64 n_.Links, .int .i64 n_.Attrs, .int .i64 n_.Size, .int .i64 n_.Start, .slice A0_9 n_.Words.length c0_9, .int .i64 n_.Frag, .int .i64 n_.Off, .int .i64 n_.Tail, .int .i64 n_.Dir, .int .i64 n_.Bytes, .int .i64 n_.Parent, .string ⟨n_.Target.toArray⟩, .int .i64 n_.Dev], .slice A1_0 a.length c1_0, .slice A2_0 b.length c2_0] w fun e w' => ∃ v, e = .returned v ∧ v = .bool r ∧ Ex w w' := by
  unfold law15_InodeBack at hf
  have H := St.start0 hm
  refine callsR Try.func10 (by kernel_rfl) (by kernel_rfl) ?_
  refine seg 2 [.op [0] 0, .co [1]] [(0, .agg #[.int .i64 n_.Kind, .int .i64 n_.Mode, .int .i64 n_.Uid, .int .i64 n_.Gid, .int .i64 n_.Time, .int .i64 n_.Links, .int .i64 n_.Attrs, .int .i64 n_.Size, .int .i64 n_.Start, .slice A0_9 n_.Words.length c0_9, .int .i64 n_.Frag, .int .i64 n_.Off, .int .i64 n_.Tail, .int .i64 n_.Dir, .int .i64 n_.Bytes, .int .i64 n_.Parent, .string ⟨n_.Target.toArray⟩, .int .i64 n_.Dev]), (1, .slice A1_0 a.length c1_0), (2, .slice A2_0 b.length c2_0)] (by kernel_rfl) ?_
  refine st (newS (some 3) (fun g => .pointer (some ⟨g, 0, none⟩)) [.int .i64 n_.Kind, .int .i64 n_.Mode, .int .i64 n_.Uid, .int .i64 n_.Gid, .int .i64 n_.Time, .int .i64 n_.Links, .int .i64 n_.Attrs, .int .i64 n_.Size, .int .i64 n_.Start, .slice A0_9 n_.Words.length c0_9, .int .i64 n_.Frag, .int .i64 n_.Off, .int .i64 n_.Tail, .int .i64 n_.Dir, .int .i64 n_.Bytes, .int .i64 n_.Parent, .string ⟨n_.Target.toArray⟩, .int .i64 n_.Dev] 46 H (by kernel_rfl) ?_)
  intro g1 w1 H
  refine seg 4 [.co [1, 0, 0], .co [1, 0, 1], .co [1, 1]] [(1, .slice A1_0 a.length c1_0), (2, .slice A2_0 b.length c2_0), (3, .pointer (some (⟨g1, 0, none⟩)))] (by kernel_rfl) ?_
  obtain ⟨y9, hp9, hf⟩ := ltE hf
  refine joinR 0 (fun (x : Bool) => [(1, .slice A1_0 a.length c1_0), (2, .slice A2_0 b.length c2_0), (3, .pointer (some (⟨g1, 0, none⟩))), (32, .bool x)]) (fun (x : Bool) (wj9 : World) => y9 = x ∧ St w noF m m [blkI g1 [.int .i64 n_.Kind, .int .i64 n_.Mode, .int .i64 n_.Uid, .int .i64 n_.Gid, .int .i64 n_.Time, .int .i64 n_.Links, .int .i64 n_.Attrs, .int .i64 n_.Size, .int .i64 n_.Start, .slice A0_9 n_.Words.length c0_9, .int .i64 n_.Frag, .int .i64 n_.Off, .int .i64 n_.Tail, .int .i64 n_.Dir, .int .i64 n_.Bytes, .int .i64 n_.Parent, .string ⟨n_.Target.toArray⟩, .int .i64 n_.Dev] 46] wj9) (by kernel_rfl) ?_ ?_
  · refine seg 2 [.op [1, 0, 0] 1, .le 0, .co [1, 0, 1], .co [1, 1]] [(1, .slice A1_0 a.length c1_0), (2, .slice A2_0 b.length c2_0), (3, .pointer (some (⟨g1, 0, none⟩))), (13, .pointer (some (⟨g1, 9, none⟩)))] (by kernel_rfl) ?_
    refine st (ldR (some 14) 44 (⟨g1, 9, none⟩) (.slice A0_9 n_.Words.length c0_9) (by kernel_rfl) (by kernel_rfl) (H.cellB 0 rfl rfl) ?_)
    refine seg 3 [.op [1, 0, 0] 5, .le 0, .co [1, 0, 1], .co [1, 1]] [(1, .slice A1_0 a.length c1_0), (2, .slice A2_0 b.length c2_0), (3, .pointer (some (⟨g1, 0, none⟩))), (17, .bool (decide ((n_.Words.length : Int) > 1000)))] (by kernel_rfl) ?_
    rcases condT hp9 with ⟨hb11, hp9⟩ | ⟨hb11, hp9⟩
    · rw [hb11]
      have p11 := of_decide_eq_true hb11
      refine seg 16 [.le 0, .co [1, 0, 1], .co [1, 1]] [(1, .slice A1_0 a.length c1_0), (2, .slice A2_0 b.length c2_0), (3, .pointer (some (⟨g1, 0, none⟩))), (32, .bool true)] (by kernel_rfl) ?_
      refine leJ (true) ⟨hp9.symm, H⟩ (by kernel_rfl)
    · rw [hb11]
      have p11 := of_decide_eq_false hb11
      refine seg 1 [.op [1, 0, 0] 6, .le 0, .co [1, 0, 1], .co [1, 1]] [(1, .slice A1_0 a.length c1_0), (2, .slice A2_0 b.length c2_0), (3, .pointer (some (⟨g1, 0, none⟩))), (17, .bool false), (18, .pointer (some (⟨g1, 16, none⟩)))] (by kernel_rfl) ?_
      refine st (ldR (some 19) 9 (⟨g1, 16, none⟩) (.string ⟨n_.Target.toArray⟩) (by kernel_rfl) (by kernel_rfl) (H.cellB 0 rfl rfl) ?_)
      refine seg 4 [.op [1, 0, 0] 11, .le 0, .co [1, 0, 1], .co [1, 1]] [(1, .slice A1_0 a.length c1_0), (2, .slice A2_0 b.length c2_0), (3, .pointer (some (⟨g1, 0, none⟩))), (23, .bool (decide ((n_.Target.length : Int) > 5000)))] (by kernel_rfl) ?_
      rcases condT hp9 with ⟨hb12, hp9⟩ | ⟨hb12, hp9⟩
      · rw [hb12]
        have p12 := of_decide_eq_true hb12
        refine seg 10 [.le 0, .co [1, 0, 1], .co [1, 1]] [(1, .slice A1_0 a.length c1_0), (2, .slice A2_0 b.length c2_0), (3, .pointer (some (⟨g1, 0, none⟩))), (32, .bool true)] (by kernel_rfl) ?_
        refine leJ (true) ⟨hp9.symm, H⟩ (by kernel_rfl)
      · rw [hb12]
        have p12 := of_decide_eq_false hb12
        refine seg 5 [.op [1, 0, 0] 16, .le 0, .co [1, 0, 1], .co [1, 1]] [(1, .slice A1_0 a.length c1_0), (2, .slice A2_0 b.length c2_0), (3, .pointer (some (⟨g1, 0, none⟩))), (28, .bool (decide ((a.length : Int) > 300)))] (by kernel_rfl) ?_
        rcases condT hp9 with ⟨hb13, hp9⟩ | ⟨hb13, hp9⟩
        · rw [hb13]
          have p13 := of_decide_eq_true hb13
          refine seg 5 [.le 0, .co [1, 0, 1], .co [1, 1]] [(1, .slice A1_0 a.length c1_0), (2, .slice A2_0 b.length c2_0), (3, .pointer (some (⟨g1, 0, none⟩))), (32, .bool true)] (by kernel_rfl) ?_
          refine leJ (true) ⟨hp9.symm, H⟩ (by kernel_rfl)
        · rw [hb13]
          have p13 := of_decide_eq_false hb13
          refine seg 5 [.le 0, .co [1, 0, 1], .co [1, 1]] [(1, .slice A1_0 a.length c1_0), (2, .slice A2_0 b.length c2_0), (3, .pointer (some (⟨g1, 0, none⟩))), (32, .bool (decide ((b.length : Int) > 300)))] (by kernel_rfl) ?_
          refine leJ ((decide ((b.length : Int) > 300))) ⟨hp9.symm, H⟩ (by kernel_rfl)
  rintro t wj9 ⟨hy9, H⟩
  rw [hy9] at hf
  rcases condT hf with ⟨hb16, hf⟩ | ⟨hb16, hf⟩
  · rw [hb16]
    refine seg 3 [.op [1, 0, 1, 0, 0] 0, .co [1, 0, 1, 0, 1], .co [1, 1]] [] (by kernel_rfl) ?_
    obtain ⟨live, h_live, hf⟩ := bindE hf
    refine st (callR (some 33) 23 #[] Try.call23 (law15_live_c H.has  h_live) (by kernel_rfl) ?_)
    rintro _ w17 ⟨rfl, hx17⟩
    replace H := H.ex hx17
    refine seg 2 [.co [1, 0, 1, 0, 1], .co [1, 1]] [(6, .bool live)] (by kernel_rfl) ?_
    refine retR [6] [.bool live] (by kernel_rfl) (by kernel_rfl) (by kernel_rfl) ?_
    have hret := (Option.some.inj hf)
    subst hret
    exact ⟨_, rfl, rfl, H.scalar⟩
  · rw [hb16]
    refine seg 4 [.op [1, 1, 0] 0, .co [1, 1, 1]] [(1, .slice A1_0 a.length c1_0), (2, .slice A2_0 b.length c2_0), (3, .pointer (some (⟨g1, 0, none⟩)))] (by kernel_rfl) ?_
    replace H : St w noF m m [blkI g1 [.int .i64 n_.Kind, .int .i64 n_.Mode, .int .i64 n_.Uid, .int .i64 n_.Gid, .int .i64 n_.Time, .int .i64 n_.Links, .int .i64 n_.Attrs, .int .i64 n_.Size, .int .i64 n_.Start, .slice A0_9 n_.Words.length c0_9, .int .i64 n_.Frag, .int .i64 n_.Off, .int .i64 n_.Tail, .int .i64 n_.Dir, .int .i64 n_.Bytes, .int .i64 n_.Parent, .string ⟨n_.Target.toArray⟩, .int .i64 n_.Dev] 46] wj9 := H
    refine st (ldAggR (some 35) 46 (⟨g1, 0, none⟩) [.int .i64 n_.Kind, .int .i64 n_.Mode, .int .i64 n_.Uid, .int .i64 n_.Gid, .int .i64 n_.Time, .int .i64 n_.Links, .int .i64 n_.Attrs, .int .i64 n_.Size, .int .i64 n_.Start, .slice A0_9 n_.Words.length c0_9, .int .i64 n_.Frag, .int .i64 n_.Off, .int .i64 n_.Tail, .int .i64 n_.Dir, .int .i64 n_.Bytes, .int .i64 n_.Parent, .string ⟨n_.Target.toArray⟩, .int .i64 n_.Dev] (by kernel_rfl) (by kernel_rfl) (H.cellsB 0 rfl (by rfl)) ?_)
    obtain ⟨encode, h_encode, hf⟩ := bindE hf
    refine st (callR (some 36) 27 #[.agg #[.int .i64 n_.Kind, .int .i64 n_.Mode, .int .i64 n_.Uid, .int .i64 n_.Gid, .int .i64 n_.Time, .int .i64 n_.Links, .int .i64 n_.Attrs, .int .i64 n_.Size, .int .i64 n_.Start, .slice A0_9 n_.Words.length c0_9, .int .i64 n_.Frag, .int .i64 n_.Off, .int .i64 n_.Tail, .int .i64 n_.Dir, .int .i64 n_.Bytes, .int .i64 n_.Parent, .string ⟨n_.Target.toArray⟩, .int .i64 n_.Dev]] Try.call27 (inode_Encode_c H.has n_ A0_9 c0_9 s0_9 l0_16 h_encode) (by kernel_rfl) ?_)
    rintro _ w18 ⟨A18_0, c18_0, mk18, rfl, hS18⟩
    have hsub18 := hS18.sub
    replace H := H.call0 hS18
    refine seg 10 [.op [1, 1, 1, 0, 0] 1, .co [1, 1, 1, 0, 1], .co [1, 1, 1, 1]] [(1, .slice A1_0 a.length c1_0), (2, .slice A2_0 b.length c2_0), (3, .pointer (some (⟨g1, 0, none⟩))), (7, .slice A18_0 encode.1.length c18_0), (39, .int .i64 encode.2)] (by kernel_rfl) ?_
    refine st (callR (some 40) 26 #[.int .i64 encode.2] Try.call26 (law15_num_c H.has encode.2) (by kernel_rfl) ?_)
    rintro _ w19 ⟨rfl, hx19⟩
    replace H := H.ex hx19
    refine seg 2 [.co [1, 1, 1, 0, 1], .co [1, 1, 1, 1]] [(1, .slice A1_0 a.length c1_0), (2, .slice A2_0 b.length c2_0), (3, .pointer (some (⟨g1, 0, none⟩))), (7, .slice A18_0 encode.1.length c18_0), (41, .bool ((law15_num encode.2) != 0))] (by kernel_rfl) ?_
    rcases condT hf with ⟨hb25, hf⟩ | ⟨hb25, hf⟩
    · rw [hb25]
      refine seg 7 [.op [1, 1, 1, 0, 1, 0, 0] 4, .co [1, 1, 1, 0, 1, 0, 1], .co [1, 1, 1, 1]] [(45, .bool ((encode.1.length : Int) == 0))] (by kernel_rfl) ?_
      rcases condT hf with ⟨hb26, hf⟩ | ⟨hb26, hf⟩
      · rw [hb26]
        replace H : St w noF m mk18 [] w19 := ((H.drop 1 rfl).drop 0 rfl)
        obtain ⟨live1, h_live1, hf⟩ := bindE hf
        refine st (callR (some 46) 23 #[] Try.call23 (law15_live_c H.has  h_live1) (by kernel_rfl) ?_)
        rintro _ w27 ⟨rfl, hx27⟩
        replace H := H.ex hx27
        refine seg 3 [.co [1, 1, 1, 0, 1, 0, 1], .co [1, 1, 1, 1]] [(6, .bool live1)] (by kernel_rfl) ?_
        refine retR [6] [.bool live1] (by kernel_rfl) (by kernel_rfl) (by kernel_rfl) ?_
        have hret := (Option.some.inj hf)
        subst hret
        exact ⟨_, rfl, rfl, H.scalar⟩
      · rw [hb26]
        refine seg 4 [.co [1, 1, 1, 0, 1, 0, 1], .co [1, 1, 1, 1]] [(6, .bool false)] (by kernel_rfl) ?_
        refine retR [6] [.bool false] (by kernel_rfl) (by kernel_rfl) (by kernel_rfl) ?_
        have hret := (Option.some.inj hf)
        subst hret
        exact ⟨_, rfl, rfl, H.scalar⟩
    · rw [hb25]
      refine seg 4 [.op [1, 1, 1, 1, 0] 0, .co [1, 1, 1, 1, 1]] [(1, .slice A1_0 a.length c1_0), (2, .slice A2_0 b.length c2_0), (3, .pointer (some (⟨g1, 0, none⟩))), (7, .slice A18_0 encode.1.length c18_0)] (by kernel_rfl) ?_
      refine st (newS (some 48) (fun g => .slice (some ⟨g, 0, none⟩) 0 0) [] 5 H (by kernel_rfl) ?_)
      intro g28 w28 H
      refine seg 1 [.op [1, 1, 1, 1, 0] 2, .co [1, 1, 1, 1, 1]] [(1, .slice A1_0 a.length c1_0), (2, .slice A2_0 b.length c2_0), (3, .pointer (some (⟨g1, 0, none⟩))), (7, .slice A18_0 encode.1.length c18_0), (48, .slice (some ⟨g28, 0, none⟩) 0 0), (49, .slice A1_0 a.length c1_0)] (by kernel_rfl) ?_
      have H := H.toRow (r := rU8) (l := ([] : List UInt8)) 0 rfl (Rows.u8.2 rfl) (Nat.le_of_ble_eq_true rfl)
      obtain ⟨xs29, hr29, hx29⟩ := (s1_0.mono hsub18).cs
      obtain ⟨b1, h_b1, hf⟩ := bindE hf
      refine st (appS (r := rU8) (some 50) 30 5 1 (.int .u8 0) 30 0 (some ⟨g28, 0, none⟩) A1_0 0 a.length c1_0 ([] : List UInt8) a b1 _ H rfl ⟨Try.underlying30, by kernel_rfl⟩ rfl (by decide) (by kernel_rfl) (hx29.cs H.has) hr29 rfl h_b1 (by decide) (by decide) ?_)
      intro A30 c30 w30 H
      refine seg 1 [.op [1, 1, 1, 1, 0] 4, .co [1, 1, 1, 1, 1]] [(1, .slice A1_0 a.length c1_0), (2, .slice A2_0 b.length c2_0), (3, .pointer (some (⟨g1, 0, none⟩))), (7, .slice A18_0 encode.1.length c18_0), (50, .slice A30 b1.length c30), (51, .slice A18_0 encode.1.length c18_0)] (by kernel_rfl) ?_
      obtain ⟨xs31, hr31, hx31⟩ := H.rowCs' 1 rfl
      obtain ⟨b2, h_b2, hf⟩ := bindE hf
      refine st (appS (r := rU8) (some 52) 30 5 1 (.int .u8 0) 30 0 A30 A18_0 c30 encode.1.length c18_0 b1 encode.1 b2 _ H rfl ⟨Try.underlying30, by kernel_rfl⟩ rfl (by decide) (by kernel_rfl) hx31 hr31 rfl h_b2 (by decide) (by decide) ?_)
      intro A32 c32 w32 H
      refine seg 1 [.op [1, 1, 1, 1, 0] 6, .co [1, 1, 1, 1, 1]] [(1, .slice A1_0 a.length c1_0), (3, .pointer (some (⟨g1, 0, none⟩))), (7, .slice A18_0 encode.1.length c18_0), (52, .slice A32 b2.length c32), (53, .slice A2_0 b.length c2_0)] (by kernel_rfl) ?_
      replace H : St w noF m mk18 [rowI rU8 5 A32 c32 b2, rowI rU8 5 A18_0 c18_0 encode.1, blkI g1 [.int .i64 n_.Kind, .int .i64 n_.Mode, .int .i64 n_.Uid, .int .i64 n_.Gid, .int .i64 n_.Time, .int .i64 n_.Links, .int .i64 n_.Attrs, .int .i64 n_.Size, .int .i64 n_.Start, .slice A0_9 n_.Words.length c0_9, .int .i64 n_.Frag, .int .i64 n_.Off, .int .i64 n_.Tail, .int .i64 n_.Dir, .int .i64 n_.Bytes, .int .i64 n_.Parent, .string ⟨n_.Target.toArray⟩, .int .i64 n_.Dev] 46] w32 := H
      obtain ⟨xs33, hr33, hx33⟩ := (s2_0.mono hsub18).cs
      obtain ⟨b3, h_b3, hf⟩ := bindE hf
      refine st (appS (r := rU8) (some 54) 30 5 1 (.int .u8 0) 30 0 A32 A2_0 c32 b.length c2_0 b2 b b3 _ H rfl ⟨Try.underlying30, by kernel_rfl⟩ rfl (by decide) (by kernel_rfl) (hx33.cs H.has) hr33 rfl h_b3 (by decide) (by decide) ?_)
      intro A34 c34 w34 H
      refine seg 7 [.op [1, 1, 1, 1, 1, 0] 3, .co [1, 1, 1, 1, 1, 1]] [(1, .slice A1_0 a.length c1_0), (3, .pointer (some (⟨g1, 0, none⟩))), (7, .slice A18_0 encode.1.length c18_0), (56, .slice A34 b3.length c34), (58, .int .i64 (a.length : Int))] (by kernel_rfl) ?_
      obtain ⟨mf35, hsub35, hsf35, H⟩ := H.fixR 0 rfl
      obtain ⟨decode, h_decode, hf⟩ := bindE hf
      refine st (callR (some 59) 31 #[.slice A34 b3.length c34, .int .i64 (a.length : Int)] Try.call31 (inode_Decode_c H.has b3 A34 c34 hsf35 (a.length : Int) h_decode) (by kernel_rfl) ?_)
      rintro _ w36 ⟨A36_0_9, c36_0_9, mk36, rfl, hS36, hs36_0, hl36_0⟩
      have hsub36 := hS36.sub
      replace H := H.call0 hS36
      refine seg 4 [.op [1, 1, 1, 1, 1, 0] 8, .co [1, 1, 1, 1, 1, 1]] [(1, .slice A1_0 a.length c1_0), (3, .pointer (some (⟨g1, 0, none⟩))), (7, .slice A18_0 encode.1.length c18_0), (60, .agg #[.int .i64 decode.1.Kind, .int .i64 decode.1.Mode, .int .i64 decode.1.Uid, .int .i64 decode.1.Gid, .int .i64 decode.1.Time, .int .i64 decode.1.Links, .int .i64 decode.1.Attrs, .int .i64 decode.1.Size, .int .i64 decode.1.Start, .slice A36_0_9 decode.1.Words.length c36_0_9, .int .i64 decode.1.Frag, .int .i64 decode.1.Off, .int .i64 decode.1.Tail, .int .i64 decode.1.Dir, .int .i64 decode.1.Bytes, .int .i64 decode.1.Parent, .string ⟨decode.1.Target.toArray⟩, .int .i64 decode.1.Dev]), (61, .int .i64 decode.2.1), (62, .int .i64 decode.2.2)] (by kernel_rfl) ?_
      refine st (newS (some 10) (fun g => .pointer (some ⟨g, 0, none⟩)) [.int .i64 0, .int .i64 0, .int .i64 0, .int .i64 0, .int .i64 0, .int .i64 0, .int .i64 0, .int .i64 0, .int .i64 0, .slice none 0 0, .int .i64 0, .int .i64 0, .int .i64 0, .int .i64 0, .int .i64 0, .int .i64 0, .string ⟨([] : List UInt8).toArray⟩, .int .i64 0] 46 H (by kernel_rfl) ?_)
      intro g37 w37 H
      refine st (stAggS none 46 0 g37 0 [.int .i64 decode.1.Kind, .int .i64 decode.1.Mode, .int .i64 decode.1.Uid, .int .i64 decode.1.Gid, .int .i64 decode.1.Time, .int .i64 decode.1.Links, .int .i64 decode.1.Attrs, .int .i64 decode.1.Size, .int .i64 decode.1.Start, .slice A36_0_9 decode.1.Words.length c36_0_9, .int .i64 decode.1.Frag, .int .i64 decode.1.Off, .int .i64 decode.1.Tail, .int .i64 decode.1.Dir, .int .i64 decode.1.Bytes, .int .i64 decode.1.Parent, .string ⟨decode.1.Target.toArray⟩, .int .i64 decode.1.Dev] [.int .i64 0, .int .i64 0, .int .i64 0, .int .i64 0, .int .i64 0, .int .i64 0, .int .i64 0, .int .i64 0, .int .i64 0, .slice none 0 0, .int .i64 0, .int .i64 0, .int .i64 0, .int .i64 0, .int .i64 0, .int .i64 0, .string ⟨([] : List UInt8).toArray⟩, .int .i64 0] [.int .i64 decode.1.Kind, .int .i64 decode.1.Mode, .int .i64 decode.1.Uid, .int .i64 decode.1.Gid, .int .i64 decode.1.Time, .int .i64 decode.1.Links, .int .i64 decode.1.Attrs, .int .i64 decode.1.Size, .int .i64 decode.1.Start, .slice A36_0_9 decode.1.Words.length c36_0_9, .int .i64 decode.1.Frag, .int .i64 decode.1.Off, .int .i64 decode.1.Tail, .int .i64 decode.1.Dir, .int .i64 decode.1.Bytes, .int .i64 decode.1.Parent, .string ⟨decode.1.Target.toArray⟩, .int .i64 decode.1.Dev] 46 H rfl (by kernel_rfl) (by kernel_rfl) (by rfl) (of_decide_eq_true rfl) rfl ?_)
      intro w38 H
      refine seg 6 [.op [1, 1, 1, 1, 1, 1, 0] 1, .co [1, 1, 1, 1, 1, 1, 1]] [(1, .slice A1_0 a.length c1_0), (3, .pointer (some (⟨g1, 0, none⟩))), (7, .slice A18_0 encode.1.length c18_0), (10, .pointer (some (⟨g37, 0, none⟩))), (11, .int .i64 decode.2.1), (63, .int .i64 decode.2.2)] (by kernel_rfl) ?_
      refine st (callR (some 64) 26 #[.int .i64 decode.2.2] Try.call26 (law15_num_c H.has decode.2.2) (by kernel_rfl) ?_)
      rintro _ w45 ⟨rfl, hx45⟩
      replace H := H.ex hx45
      refine seg 2 [.op [1, 1, 1, 1, 1, 1, 0] 4, .co [1, 1, 1, 1, 1, 1, 1]] [(1, .slice A1_0 a.length c1_0), (3, .pointer (some (⟨g1, 0, none⟩))), (7, .slice A18_0 encode.1.length c18_0), (10, .pointer (some (⟨g37, 0, none⟩))), (11, .int .i64 decode.2.1), (66, .bool ((law15_num decode.2.2) == 0))] (by kernel_rfl) ?_
      rcases condT hf with ⟨hb46, hf⟩ | ⟨hb46, hf⟩
      · rw [hb46]
        refine seg 9 [.op [1, 1, 1, 1, 1, 1, 0] 13, .co [1, 1, 1, 1, 1, 1, 1]] [(3, .pointer (some (⟨g1, 0, none⟩))), (10, .pointer (some (⟨g37, 0, none⟩))), (75, .bool (decode.2.1 == (IntKind.i64.wrap ((a.length : Int) + (encode.1.length : Int)))))] (by kernel_rfl) ?_
        rcases condT hf with ⟨hb47, hf⟩ | ⟨hb47, hf⟩
        · rw [hb47]
          replace H : St w noF m mk36 [blkI g37 [.int .i64 decode.1.Kind, .int .i64 decode.1.Mode, .int .i64 decode.1.Uid, .int .i64 decode.1.Gid, .int .i64 decode.1.Time, .int .i64 decode.1.Links, .int .i64 decode.1.Attrs, .int .i64 decode.1.Size, .int .i64 decode.1.Start, .slice A36_0_9 decode.1.Words.length c36_0_9, .int .i64 decode.1.Frag, .int .i64 decode.1.Off, .int .i64 decode.1.Tail, .int .i64 decode.1.Dir, .int .i64 decode.1.Bytes, .int .i64 decode.1.Parent, .string ⟨decode.1.Target.toArray⟩, .int .i64 decode.1.Dev] 46, blkI g1 [.int .i64 n_.Kind, .int .i64 n_.Mode, .int .i64 n_.Uid, .int .i64 n_.Gid, .int .i64 n_.Time, .int .i64 n_.Links, .int .i64 n_.Attrs, .int .i64 n_.Size, .int .i64 n_.Start, .slice A0_9 n_.Words.length c0_9, .int .i64 n_.Frag, .int .i64 n_.Off, .int .i64 n_.Tail, .int .i64 n_.Dir, .int .i64 n_.Bytes, .int .i64 n_.Parent, .string ⟨n_.Target.toArray⟩, .int .i64 n_.Dev] 46] w45 := (H.drop 1 rfl)
          refine st (ldAggR (some 76) 46 (⟨g1, 0, none⟩) [.int .i64 n_.Kind, .int .i64 n_.Mode, .int .i64 n_.Uid, .int .i64 n_.Gid, .int .i64 n_.Time, .int .i64 n_.Links, .int .i64 n_.Attrs, .int .i64 n_.Size, .int .i64 n_.Start, .slice A0_9 n_.Words.length c0_9, .int .i64 n_.Frag, .int .i64 n_.Off, .int .i64 n_.Tail, .int .i64 n_.Dir, .int .i64 n_.Bytes, .int .i64 n_.Parent, .string ⟨n_.Target.toArray⟩, .int .i64 n_.Dev] (by kernel_rfl) (by kernel_rfl) (H.cellsB 1 rfl (by rfl)) ?_)
          refine st (ldAggR (some 77) 46 (⟨g37, 0, none⟩) [.int .i64 decode.1.Kind, .int .i64 decode.1.Mode, .int .i64 decode.1.Uid, .int .i64 decode.1.Gid, .int .i64 decode.1.Time, .int .i64 decode.1.Links, .int .i64 decode.1.Attrs, .int .i64 decode.1.Size, .int .i64 decode.1.Start, .slice A36_0_9 decode.1.Words.length c36_0_9, .int .i64 decode.1.Frag, .int .i64 decode.1.Off, .int .i64 decode.1.Tail, .int .i64 decode.1.Dir, .int .i64 decode.1.Bytes, .int .i64 decode.1.Parent, .string ⟨decode.1.Target.toArray⟩, .int .i64 decode.1.Dev] (by kernel_rfl) (by kernel_rfl) (H.cellsB 0 rfl (by rfl)) ?_)
          obtain ⟨same, h_same, hf⟩ := bindE hf
          refine st (callR (some 78) 33 #[.agg #[.int .i64 n_.Kind, .int .i64 n_.Mode, .int .i64 n_.Uid, .int .i64 n_.Gid, .int .i64 n_.Time, .int .i64 n_.Links, .int .i64 n_.Attrs, .int .i64 n_.Size, .int .i64 n_.Start, .slice A0_9 n_.Words.length c0_9, .int .i64 n_.Frag, .int .i64 n_.Off, .int .i64 n_.Tail, .int .i64 n_.Dir, .int .i64 n_.Bytes, .int .i64 n_.Parent, .string ⟨n_.Target.toArray⟩, .int .i64 n_.Dev], .agg #[.int .i64 decode.1.Kind, .int .i64 decode.1.Mode, .int .i64 decode.1.Uid, .int .i64 decode.1.Gid, .int .i64 decode.1.Time, .int .i64 decode.1.Links, .int .i64 decode.1.Attrs, .int .i64 decode.1.Size, .int .i64 decode.1.Start, .slice A36_0_9 decode.1.Words.length c36_0_9, .int .i64 decode.1.Frag, .int .i64 decode.1.Off, .int .i64 decode.1.Tail, .int .i64 decode.1.Dir, .int .i64 decode.1.Bytes, .int .i64 decode.1.Parent, .string ⟨decode.1.Target.toArray⟩, .int .i64 decode.1.Dev]] Try.call33 (ref15_Same_c H.has n_ A0_9 c0_9 (s0_9.mono ((hsub18.trans hsub35).trans hsub36)) l0_16 decode.1 A36_0_9 c36_0_9 hs36_0 hl36_0 h_same) (by kernel_rfl) ?_)
          rintro _ w48 ⟨rfl, hx48⟩
          replace H := H.ex hx48
          refine seg 2 [.op [1, 1, 1, 1, 1, 1, 0] 18, .co [1, 1, 1, 1, 1, 1, 1]] [(80, .bool same)] (by kernel_rfl) ?_
          rcases condT hf with ⟨hb49, hf⟩ | ⟨hb49, hf⟩
          · rw [hb49]
            obtain ⟨live2, h_live2, hf⟩ := bindE hf
            refine st (callR (some 81) 23 #[] Try.call23 (law15_live_c H.has  h_live2) (by kernel_rfl) ?_)
            rintro _ w50 ⟨rfl, hx50⟩
            replace H := H.ex hx50
            refine seg 3 [.co [1, 1, 1, 1, 1, 1, 1]] [(6, .bool live2)] (by kernel_rfl) ?_
            refine retR [6] [.bool live2] (by kernel_rfl) (by kernel_rfl) (by kernel_rfl) ?_
            have hret := (Option.some.inj hf)
            subst hret
            exact ⟨_, rfl, rfl, H.scalar⟩
          · rw [hb49]
            refine seg 4 [.co [1, 1, 1, 1, 1, 1, 1]] [(6, .bool false)] (by kernel_rfl) ?_
            refine retR [6] [.bool false] (by kernel_rfl) (by kernel_rfl) (by kernel_rfl) ?_
            have hret := (Option.some.inj hf)
            subst hret
            exact ⟨_, rfl, rfl, H.scalar⟩
        · rw [hb47]
          refine seg 9 [.co [1, 1, 1, 1, 1, 1, 1]] [(6, .bool false)] (by kernel_rfl) ?_
          refine retR [6] [.bool false] (by kernel_rfl) (by kernel_rfl) (by kernel_rfl) ?_
          have hret := (Option.some.inj hf)
          subst hret
          exact ⟨_, rfl, rfl, H.scalar⟩
      · rw [hb46]
        refine seg 18 [.co [1, 1, 1, 1, 1, 1, 1]] [(6, .bool false)] (by kernel_rfl) ?_
        refine retR [6] [.bool false] (by kernel_rfl) (by kernel_rfl) (by kernel_rfl) ?_
        have hret := (Option.some.inj hf)
        subst hret
        exact ⟨_, rfl, rfl, H.scalar⟩
end Go.Proofs.Ytebbaokcgnjfiaa.F
