/- The code computes them: printed by lift.py, part 4. -/
import Derived.Test.YtgoedcjjckdlpaaDoorProg
import Derived.Test.YtgoedcjjckdlpaaDoorLSP
import Derived.Test.YtgoedcjjckdlpaaDoorLS3
set_option linter.unusedVariables false
set_option linter.unusedSimpArgs false
namespace Go.Proofs.YtgoedcjjckdlpaaDoor.F
open Go Go.RowKit Go.Proofs.YtgoedcjjckdlpaaDoor Go.Proofs.YtgoedcjjckdlpaaDoor.K
set_option maxRecDepth 100000
theorem ref31_Same_c {m : Mem} {w : World} (hm : Has m w) (a : (List TApiAct)) (A0_0 : Option Addr) (c0_0 : Nat) (s0_0 : SlI rApiAct m A0_0 c0_0 a) (b : (List TApiAct)) (A1_0 : Option Addr) (c1_0 : Nat) (s1_0 : SlI rApiAct m A1_0 c1_0 b) (plain : Bool) {r : Bool} (hf : ref31_Same a b plain = some r) :
    Calls Tryd.prog 12 #[.slice A0_0 a.length c0_0, .slice A1_0 b.length c1_0, .bool plain] w fun e w' => ∃ v, e = .returned v ∧ v = .bool r ∧ Ex w w' := by
  unfold ref31_Same at hf
  have H := St.start0 hm
  refine callsR Tryd.func12 (by kernel_rfl) (by kernel_rfl) ?_
  refine seg 13 [.co [1, 0, 1], .co [1, 1]] [(0, .slice A0_0 a.length c0_0), (1, .slice A1_0 b.length c1_0), (2, .bool plain), (14, .bool ((a.length : Int) != (b.length : Int)))] (by kernel_rfl) ?_
  rcases condT hf with ⟨hb2, hf⟩ | ⟨hb2, hf⟩
  · rw [hb2]
    refine seg 5 [.co [1, 0, 1, 0, 1], .co [1, 1]] [(6, .bool false)] (by kernel_rfl) ?_
    refine retR [6] [.bool false] (by kernel_rfl) (by kernel_rfl) (by kernel_rfl) ?_
    have hret := (Option.some.inj hf)
    subst hret
    exact ⟨_, rfl, rfl, H.scalar⟩
  · rw [hb2]
    refine seg 7 [.co [1, 1, 0, 1], .co [1, 1, 1]] [(0, .slice A0_0 a.length c0_0), (1, .slice A1_0 b.length c1_0), (2, .bool plain), (7, .int .i64 0)] (by kernel_rfl) ?_
    obtain ⟨y257, hp257, hfl257, hfr257⟩ := bndE hf
    refine joinR 0 (fun (x : Mem) => []) (fun (x : Mem) (wj257 : World) => y257 = .inl () ∧ St w noF m x [] wj257 ∧ Sub m x) (by kernel_rfl) ?_ ?_
    · refine seg 1 [.co [1, 1, 0, 1, 0], .bl 0, .le 0, .co [1, 1, 1]] [(0, .slice A0_0 a.length c0_0), (1, .slice A1_0 b.length c1_0), (2, .bool plain), (7, .int .i64 0)] (by kernel_rfl) ?_
      obtain ⟨nn315, hR315⟩ := loopO_iff.1 hp257
      refine loopR 1 (fun (x : Nat × Bool × Nat × Mem) => [(0, .slice A0_0 a.length c0_0), (1, .slice A1_0 b.length c1_0), (2, .bool x.2.1), (7, .int .i64 (x.2.2.1 : Int))]) (fun (x : Nat × Bool × Nat × Mem) (wl315 : World) => iter (fun s => ref31_Same_l1 a b s.1 s.2) x.1 (x.2.1, x.2.2.1) = some y257 ∧ St w noF m x.2.2.2 [] wl315 ∧ Sub m x.2.2.2) (fun (x : Nat × Bool × Nat × Mem) => x.1) (nn315, plain, 0, m) (by kernel_rfl) (by kernel_rfl) (by kernel_rfl) ?_ ?_
      · exact ⟨hR315, H, (Sub.refl _)⟩
      rintro ⟨n315, plain1, i, mm316⟩ wl315 ⟨hR315, H, hsub316⟩
      try dsimp only at hR315
      try dsimp only at H
      try dsimp only at hsub316
      obtain ⟨nk315, q315, rfl, hb_315, hnx315, hfin315⟩ := iterE hR315
      replace hb_315 : ref31_Same_l1 a b plain1 i = some q315 := hb_315
      unfold ref31_Same_l1 at hb_315
      refine seg 8 [.co [1, 1, 0, 1, 0, 0, 0, 1], .co [1, 1, 0, 1, 0, 0, 1], .le 1, .bl 0, .le 0, .co [1, 1, 1]] [(0, .slice A0_0 a.length c0_0), (1, .slice A1_0 b.length c1_0), (2, .bool plain1), (7, .int .i64 (i : Int)), (18, .bool (decide ((i : Int) < (a.length : Int))))] (by kernel_rfl) ?_
      rcases condT hb_315 with ⟨hb317, hb_315⟩ | ⟨hb317, hb_315⟩
      · rw [hb317]
        have p317 := of_decide_eq_true hb317
        refine seg 5 [.co [1, 1, 0, 1, 0, 0, 1, 0, 0, 0], .co [1, 1, 0, 1, 0, 0, 1, 0, 0, 1], .bl 1, .co [1, 1, 0, 1, 0, 0, 1, 1], .le 1, .bl 0, .le 0, .co [1, 1, 1]] [(0, .slice A0_0 a.length c0_0), (1, .slice A1_0 b.length c1_0), (2, .bool plain1), (7, .int .i64 (i : Int))] (by kernel_rfl) ?_
        obtain ⟨y326, hp326, hb_315⟩ := bindE hb_315
        refine joinR 2 (fun (x : Int × Int × UInt64 × (List UInt8) × Int × (List UInt8) × Int × Int × Int × Int × (List UInt8) × Bool × Int × Int × UInt64 × (List UInt8) × Int × (List UInt8) × Int × Int × Int × Int × (List UInt8) × Bool × Nat × Option Addr × Nat × Option Addr × Nat × Nat × Option Addr × Nat × Option Addr × Nat × Mem) => [(0, .slice A0_0 a.length c0_0), (1, .slice A1_0 b.length c1_0), (2, .bool plain1), (7, .int .i64 (i : Int)), (8, .pointer (some (⟨x.2.2.2.2.2.2.2.2.2.2.2.2.2.2.2.2.2.2.2.2.2.2.2.2.1, 0, none⟩))), (9, .pointer (some (⟨x.2.2.2.2.2.2.2.2.2.2.2.2.2.2.2.2.2.2.2.2.2.2.2.2.2.2.2.2.2.1, 0, none⟩)))]) (fun (x : Int × Int × UInt64 × (List UInt8) × Int × (List UInt8) × Int × Int × Int × Int × (List UInt8) × Bool × Int × Int × UInt64 × (List UInt8) × Int × (List UInt8) × Int × Int × Int × Int × (List UInt8) × Bool × Nat × Option Addr × Nat × Option Addr × Nat × Nat × Option Addr × Nat × Option Addr × Nat × Mem) (wj326 : World) => y326 = (x.1, x.2.1, x.2.2.1, x.2.2.2.1, x.2.2.2.2.1, x.2.2.2.2.2.1, x.2.2.2.2.2.2.1, x.2.2.2.2.2.2.2.1, x.2.2.2.2.2.2.2.2.1, x.2.2.2.2.2.2.2.2.2.1, x.2.2.2.2.2.2.2.2.2.2.1, x.2.2.2.2.2.2.2.2.2.2.2.1, x.2.2.2.2.2.2.2.2.2.2.2.2.1, x.2.2.2.2.2.2.2.2.2.2.2.2.2.1, x.2.2.2.2.2.2.2.2.2.2.2.2.2.2.1, x.2.2.2.2.2.2.2.2.2.2.2.2.2.2.2.1, x.2.2.2.2.2.2.2.2.2.2.2.2.2.2.2.2.1, x.2.2.2.2.2.2.2.2.2.2.2.2.2.2.2.2.2.1, x.2.2.2.2.2.2.2.2.2.2.2.2.2.2.2.2.2.2.1, x.2.2.2.2.2.2.2.2.2.2.2.2.2.2.2.2.2.2.2.1, x.2.2.2.2.2.2.2.2.2.2.2.2.2.2.2.2.2.2.2.2.1, x.2.2.2.2.2.2.2.2.2.2.2.2.2.2.2.2.2.2.2.2.2.1, x.2.2.2.2.2.2.2.2.2.2.2.2.2.2.2.2.2.2.2.2.2.2.1, x.2.2.2.2.2.2.2.2.2.2.2.2.2.2.2.2.2.2.2.2.2.2.2.1) ∧ St w noF m x.2.2.2.2.2.2.2.2.2.2.2.2.2.2.2.2.2.2.2.2.2.2.2.2.2.2.2.2.2.2.2.2.2.2 [blkI x.2.2.2.2.2.2.2.2.2.2.2.2.2.2.2.2.2.2.2.2.2.2.2.2.1 [.int .i64 x.1, .int .i64 x.2.1, .int .u64 (x.2.2.1.toNat : Int), .slice (x.2.2.2.2.2.2.2.2.2.2.2.2.2.2.2.2.2.2.2.2.2.2.2.2.2.1) x.2.2.2.1.length (x.2.2.2.2.2.2.2.2.2.2.2.2.2.2.2.2.2.2.2.2.2.2.2.2.2.2.1), .int .i64 x.2.2.2.2.1, .slice (x.2.2.2.2.2.2.2.2.2.2.2.2.2.2.2.2.2.2.2.2.2.2.2.2.2.2.2.1) x.2.2.2.2.2.1.length (x.2.2.2.2.2.2.2.2.2.2.2.2.2.2.2.2.2.2.2.2.2.2.2.2.2.2.2.2.1), .int .i64 x.2.2.2.2.2.2.1, .int .i64 x.2.2.2.2.2.2.2.1, .int .i64 x.2.2.2.2.2.2.2.2.1, .int .i64 x.2.2.2.2.2.2.2.2.2.1, .string ⟨x.2.2.2.2.2.2.2.2.2.2.1.toArray⟩, .bool x.2.2.2.2.2.2.2.2.2.2.2.1] 29, blkI x.2.2.2.2.2.2.2.2.2.2.2.2.2.2.2.2.2.2.2.2.2.2.2.2.2.2.2.2.2.1 [.int .i64 x.2.2.2.2.2.2.2.2.2.2.2.2.1, .int .i64 x.2.2.2.2.2.2.2.2.2.2.2.2.2.1, .int .u64 (x.2.2.2.2.2.2.2.2.2.2.2.2.2.2.1.toNat : Int), .slice (x.2.2.2.2.2.2.2.2.2.2.2.2.2.2.2.2.2.2.2.2.2.2.2.2.2.2.2.2.2.2.1) x.2.2.2.2.2.2.2.2.2.2.2.2.2.2.2.1.length (x.2.2.2.2.2.2.2.2.2.2.2.2.2.2.2.2.2.2.2.2.2.2.2.2.2.2.2.2.2.2.2.1), .int .i64 x.2.2.2.2.2.2.2.2.2.2.2.2.2.2.2.2.1, .slice (x.2.2.2.2.2.2.2.2.2.2.2.2.2.2.2.2.2.2.2.2.2.2.2.2.2.2.2.2.2.2.2.2.1) x.2.2.2.2.2.2.2.2.2.2.2.2.2.2.2.2.2.1.length (x.2.2.2.2.2.2.2.2.2.2.2.2.2.2.2.2.2.2.2.2.2.2.2.2.2.2.2.2.2.2.2.2.2.1), .int .i64 x.2.2.2.2.2.2.2.2.2.2.2.2.2.2.2.2.2.2.1, .int .i64 x.2.2.2.2.2.2.2.2.2.2.2.2.2.2.2.2.2.2.2.1, .int .i64 x.2.2.2.2.2.2.2.2.2.2.2.2.2.2.2.2.2.2.2.2.1, .int .i64 x.2.2.2.2.2.2.2.2.2.2.2.2.2.2.2.2.2.2.2.2.2.1, .string ⟨x.2.2.2.2.2.2.2.2.2.2.2.2.2.2.2.2.2.2.2.2.2.2.1.toArray⟩, .bool x.2.2.2.2.2.2.2.2.2.2.2.2.2.2.2.2.2.2.2.2.2.2.2.1] 29] wj326 ∧ Sub mm316 x.2.2.2.2.2.2.2.2.2.2.2.2.2.2.2.2.2.2.2.2.2.2.2.2.2.2.2.2.2.2.2.2.2.2 ∧ SlI rU8 x.2.2.2.2.2.2.2.2.2.2.2.2.2.2.2.2.2.2.2.2.2.2.2.2.2.2.2.2.2.2.2.2.2.2 x.2.2.2.2.2.2.2.2.2.2.2.2.2.2.2.2.2.2.2.2.2.2.2.2.2.1 x.2.2.2.2.2.2.2.2.2.2.2.2.2.2.2.2.2.2.2.2.2.2.2.2.2.2.1 x.2.2.2.1 ∧ SlI rU8 x.2.2.2.2.2.2.2.2.2.2.2.2.2.2.2.2.2.2.2.2.2.2.2.2.2.2.2.2.2.2.2.2.2.2 x.2.2.2.2.2.2.2.2.2.2.2.2.2.2.2.2.2.2.2.2.2.2.2.2.2.2.2.1 x.2.2.2.2.2.2.2.2.2.2.2.2.2.2.2.2.2.2.2.2.2.2.2.2.2.2.2.2.1 x.2.2.2.2.2.1 ∧ SlI rU8 x.2.2.2.2.2.2.2.2.2.2.2.2.2.2.2.2.2.2.2.2.2.2.2.2.2.2.2.2.2.2.2.2.2.2 x.2.2.2.2.2.2.2.2.2.2.2.2.2.2.2.2.2.2.2.2.2.2.2.2.2.2.2.2.2.2.1 x.2.2.2.2.2.2.2.2.2.2.2.2.2.2.2.2.2.2.2.2.2.2.2.2.2.2.2.2.2.2.2.1 x.2.2.2.2.2.2.2.2.2.2.2.2.2.2.2.1 ∧ SlI rU8 x.2.2.2.2.2.2.2.2.2.2.2.2.2.2.2.2.2.2.2.2.2.2.2.2.2.2.2.2.2.2.2.2.2.2 x.2.2.2.2.2.2.2.2.2.2.2.2.2.2.2.2.2.2.2.2.2.2.2.2.2.2.2.2.2.2.2.2.1 x.2.2.2.2.2.2.2.2.2.2.2.2.2.2.2.2.2.2.2.2.2.2.2.2.2.2.2.2.2.2.2.2.2.1 x.2.2.2.2.2.2.2.2.2.2.2.2.2.2.2.2.2.1 ∧ x.2.2.2.2.2.2.2.2.2.2.1.length ≤ 9223372036854775807 ∧ x.2.2.2.2.2.2.2.2.2.2.2.2.2.2.2.2.2.2.2.2.2.2.1.length ≤ 9223372036854775807) (by kernel_rfl) ?_ ?_
        · obtain ⟨x_, h_x_, hp326⟩ := bindE hp326
          obtain ⟨x_1, h_x_1, hp326⟩ := bindE hp326
          have hst : statB (bodyOf Tryd.f12) [1, 1, 0, 1, 0, 0, 1, 0, 0, 0] = true := by kernel_rfl
          refine drawS (Has mm316) H (by kernel_rfl) (by kernel_rfl) ?_
          intro w336 H
          refine segD2 hst [0, 1, 4, 5] [0, 1, 4, 5] [(0, .slice A0_0 a.length c0_0), (1, .slice A1_0 b.length c1_0), (2, .bool plain1), (7, .int .i64 (i : Int)), (21, .slice A0_0 a.length c0_0), (22, .int .i64 (i : Int)), (25, .slice A1_0 b.length c1_0), (26, .int .i64 (i : Int))] (by kernel_rfl) ?_
          obtain ⟨ad337, _, ea337, ⟨A337_3, c337_3, A337_5, c337_5, rfl, hs337_3, hs337_5, hl337_10⟩, hc337⟩ := (s0_0.mono hsub316).at_ h_x_ (by decide)
          refine takeD2 (i := 2) (d := (some 23)) (s := vS (Instr.indexAt 31 (.slice A0_0 a.length c0_0) (.int .i64 (i : Int)))) (v := .pointer (some (ad337.add (i * 12)))) hst (by kernel_rfl) (by kernel_rfl) (fun w' hw' => idx_run 31 29 12 _ ad337 _ _ _ _ _ ea337 (by kernel_rfl) (by omega) (by have := (List.getElem?_eq_some_iff.1 h_x_).1; omega) rfl) ?_
          refine takeD2 (i := 3) (d := (some 24)) (s := vS (Instr.loadAt 29 (.pointer (some (ad337.add (i * 12)))))) (v := (.agg #[.int .i64 x_.Do, .int .i64 x_.Len, .int .u64 (x_.Sum.toNat : Int), .slice A337_3 x_.Bytes.length c337_3, .int .i64 x_.Crash.After, .slice A337_5 x_.Crash.Torn.length c337_5, .int .i64 x_.Call.Do, .int .i64 x_.Call.Ino, .int .i64 x_.Call.A, .int .i64 x_.Call.B, .string ⟨x_.Call.Name.toArray⟩, .bool x_.Call.On])) hst (by kernel_rfl) (by kernel_rfl) (fun w' hw' => aggRun _ _ [.int .i64 x_.Do, .int .i64 x_.Len, .int .u64 (x_.Sum.toNat : Int), .slice A337_3 x_.Bytes.length c337_3, .int .i64 x_.Crash.After, .slice A337_5 x_.Crash.Torn.length c337_5, .int .i64 x_.Call.Do, .int .i64 x_.Call.Ino, .int .i64 x_.Call.A, .int .i64 x_.Call.B, .string ⟨x_.Call.Name.toArray⟩, .bool x_.Call.On] (by kernel_rfl) (fun j v hj => hw'.cell (hc337 j v hj))) ?_
          obtain ⟨ad338, _, ea338, ⟨A338_3, c338_3, A338_5, c338_5, rfl, hs338_3, hs338_5, hl338_10⟩, hc338⟩ := (s1_0.mono hsub316).at_ h_x_1 (by decide)
          refine takeD2 (i := 6) (d := (some 27)) (s := vS (Instr.indexAt 31 (.slice A1_0 b.length c1_0) (.int .i64 (i : Int)))) (v := .pointer (some (ad338.add (i * 12)))) hst (by kernel_rfl) (by kernel_rfl) (fun w' hw' => idx_run 31 29 12 _ ad338 _ _ _ _ _ ea338 (by kernel_rfl) (by omega) (by have := (List.getElem?_eq_some_iff.1 h_x_1).1; omega) rfl) ?_
          refine takeD2 (i := 7) (d := (some 28)) (s := vS (Instr.loadAt 29 (.pointer (some (ad338.add (i * 12)))))) (v := (.agg #[.int .i64 x_1.Do, .int .i64 x_1.Len, .int .u64 (x_1.Sum.toNat : Int), .slice A338_3 x_1.Bytes.length c338_3, .int .i64 x_1.Crash.After, .slice A338_5 x_1.Crash.Torn.length c338_5, .int .i64 x_1.Call.Do, .int .i64 x_1.Call.Ino, .int .i64 x_1.Call.A, .int .i64 x_1.Call.B, .string ⟨x_1.Call.Name.toArray⟩, .bool x_1.Call.On])) hst (by kernel_rfl) (by kernel_rfl) (fun w' hw' => aggRun _ _ [.int .i64 x_1.Do, .int .i64 x_1.Len, .int .u64 (x_1.Sum.toNat : Int), .slice A338_3 x_1.Bytes.length c338_3, .int .i64 x_1.Crash.After, .slice A338_5 x_1.Crash.Torn.length c338_5, .int .i64 x_1.Call.Do, .int .i64 x_1.Call.Ino, .int .i64 x_1.Call.A, .int .i64 x_1.Call.B, .string ⟨x_1.Call.Name.toArray⟩, .bool x_1.Call.On] (by kernel_rfl) (fun j v hj => hw'.cell (hc338 j v hj))) ?_
          refine allD2 [8, 9] (by kernel_rfl) H.has ⟨?_, ?_, trivial⟩
          · replace H : St w noF m mm316 [] w336 := H
            refine (newS (some 8) (fun g => .pointer (some ⟨g, 0, none⟩)) [.int .i64 0, .int .i64 0, .int .u64 0, .slice none 0 0, .int .i64 0, .slice none 0 0, .int .i64 0, .int .i64 0, .int .i64 0, .int .i64 0, .string ⟨([] : List UInt8).toArray⟩, .bool false] 29 H (by kernel_rfl) ?_)
            intro g339 w339 H
            refine stD2 (i := 9) (by kernel_rfl) H.has (newS (some 9) (fun g => .pointer (some ⟨g, 0, none⟩)) [.int .i64 0, .int .i64 0, .int .u64 0, .slice none 0 0, .int .i64 0, .slice none 0 0, .int .i64 0, .int .i64 0, .int .i64 0, .int .i64 0, .string ⟨([] : List UInt8).toArray⟩, .bool false] 29 H (by kernel_rfl) ?_)
            intro g340 w340 H
            refine stD2 (i := 10) (by kernel_rfl) H.has (stAggS none 29 1 g339 0 [.int .i64 x_.Do, .int .i64 x_.Len, .int .u64 (x_.Sum.toNat : Int), .slice A337_3 x_.Bytes.length c337_3, .int .i64 x_.Crash.After, .slice A337_5 x_.Crash.Torn.length c337_5, .int .i64 x_.Call.Do, .int .i64 x_.Call.Ino, .int .i64 x_.Call.A, .int .i64 x_.Call.B, .string ⟨x_.Call.Name.toArray⟩, .bool x_.Call.On] [.int .i64 0, .int .i64 0, .int .u64 0, .slice none 0 0, .int .i64 0, .slice none 0 0, .int .i64 0, .int .i64 0, .int .i64 0, .int .i64 0, .string ⟨([] : List UInt8).toArray⟩, .bool false] [.int .i64 x_.Do, .int .i64 x_.Len, .int .u64 (x_.Sum.toNat : Int), .slice A337_3 x_.Bytes.length c337_3, .int .i64 x_.Crash.After, .slice A337_5 x_.Crash.Torn.length c337_5, .int .i64 x_.Call.Do, .int .i64 x_.Call.Ino, .int .i64 x_.Call.A, .int .i64 x_.Call.B, .string ⟨x_.Call.Name.toArray⟩, .bool x_.Call.On] 29 H rfl (by kernel_rfl) (by kernel_rfl) (by rfl) (of_decide_eq_true rfl) rfl ?_)
            intro w341 H
            refine stD2 (i := 11) (by kernel_rfl) H.has (stAggS none 29 0 g340 0 [.int .i64 x_1.Do, .int .i64 x_1.Len, .int .u64 (x_1.Sum.toNat : Int), .slice A338_3 x_1.Bytes.length c338_3, .int .i64 x_1.Crash.After, .slice A338_5 x_1.Crash.Torn.length c338_5, .int .i64 x_1.Call.Do, .int .i64 x_1.Call.Ino, .int .i64 x_1.Call.A, .int .i64 x_1.Call.B, .string ⟨x_1.Call.Name.toArray⟩, .bool x_1.Call.On] [.int .i64 0, .int .i64 0, .int .u64 0, .slice none 0 0, .int .i64 0, .slice none 0 0, .int .i64 0, .int .i64 0, .int .i64 0, .int .i64 0, .string ⟨([] : List UInt8).toArray⟩, .bool false] [.int .i64 x_1.Do, .int .i64 x_1.Len, .int .u64 (x_1.Sum.toNat : Int), .slice A338_3 x_1.Bytes.length c338_3, .int .i64 x_1.Crash.After, .slice A338_5 x_1.Crash.Torn.length c338_5, .int .i64 x_1.Call.Do, .int .i64 x_1.Call.Ino, .int .i64 x_1.Call.A, .int .i64 x_1.Call.B, .string ⟨x_1.Call.Name.toArray⟩, .bool x_1.Call.On] 29 H rfl (by kernel_rfl) (by kernel_rfl) (by rfl) (of_decide_eq_true rfl) rfl ?_)
            intro w342 H
            refine endD2 (by kernel_rfl) H.has ?_
            refine leJ (x_.Do, x_.Len, x_.Sum, x_.Bytes, x_.Crash.After, x_.Crash.Torn, x_.Call.Do, x_.Call.Ino, x_.Call.A, x_.Call.B, x_.Call.Name, x_.Call.On, x_1.Do, x_1.Len, x_1.Sum, x_1.Bytes, x_1.Crash.After, x_1.Crash.Torn, x_1.Call.Do, x_1.Call.Ino, x_1.Call.A, x_1.Call.B, x_1.Call.Name, x_1.Call.On, g339, A337_3, c337_3, A337_5, c337_5, g340, A338_3, c338_3, A338_5, c338_5, mm316) ⟨(Option.some.inj hp326).symm, (H.pull 1 rfl), (Sub.refl _), hs337_3, hs337_5, hs338_3, hs338_5, hl337_10, hl338_10⟩ (by kernel_rfl)
          · replace H : St w noF m mm316 [] w336 := H
            refine (newS (some 9) (fun g => .pointer (some ⟨g, 0, none⟩)) [.int .i64 0, .int .i64 0, .int .u64 0, .slice none 0 0, .int .i64 0, .slice none 0 0, .int .i64 0, .int .i64 0, .int .i64 0, .int .i64 0, .string ⟨([] : List UInt8).toArray⟩, .bool false] 29 H (by kernel_rfl) ?_)
            intro g343 w343 H
            refine stD2 (i := 8) (by kernel_rfl) H.has (newS (some 8) (fun g => .pointer (some ⟨g, 0, none⟩)) [.int .i64 0, .int .i64 0, .int .u64 0, .slice none 0 0, .int .i64 0, .slice none 0 0, .int .i64 0, .int .i64 0, .int .i64 0, .int .i64 0, .string ⟨([] : List UInt8).toArray⟩, .bool false] 29 H (by kernel_rfl) ?_)
            intro g344 w344 H
            refine stD2 (i := 10) (by kernel_rfl) H.has (stAggS none 29 0 g344 0 [.int .i64 x_.Do, .int .i64 x_.Len, .int .u64 (x_.Sum.toNat : Int), .slice A337_3 x_.Bytes.length c337_3, .int .i64 x_.Crash.After, .slice A337_5 x_.Crash.Torn.length c337_5, .int .i64 x_.Call.Do, .int .i64 x_.Call.Ino, .int .i64 x_.Call.A, .int .i64 x_.Call.B, .string ⟨x_.Call.Name.toArray⟩, .bool x_.Call.On] [.int .i64 0, .int .i64 0, .int .u64 0, .slice none 0 0, .int .i64 0, .slice none 0 0, .int .i64 0, .int .i64 0, .int .i64 0, .int .i64 0, .string ⟨([] : List UInt8).toArray⟩, .bool false] [.int .i64 x_.Do, .int .i64 x_.Len, .int .u64 (x_.Sum.toNat : Int), .slice A337_3 x_.Bytes.length c337_3, .int .i64 x_.Crash.After, .slice A337_5 x_.Crash.Torn.length c337_5, .int .i64 x_.Call.Do, .int .i64 x_.Call.Ino, .int .i64 x_.Call.A, .int .i64 x_.Call.B, .string ⟨x_.Call.Name.toArray⟩, .bool x_.Call.On] 29 H rfl (by kernel_rfl) (by kernel_rfl) (by rfl) (of_decide_eq_true rfl) rfl ?_)
            intro w345 H
            refine stD2 (i := 11) (by kernel_rfl) H.has (stAggS none 29 1 g343 0 [.int .i64 x_1.Do, .int .i64 x_1.Len, .int .u64 (x_1.Sum.toNat : Int), .slice A338_3 x_1.Bytes.length c338_3, .int .i64 x_1.Crash.After, .slice A338_5 x_1.Crash.Torn.length c338_5, .int .i64 x_1.Call.Do, .int .i64 x_1.Call.Ino, .int .i64 x_1.Call.A, .int .i64 x_1.Call.B, .string ⟨x_1.Call.Name.toArray⟩, .bool x_1.Call.On] [.int .i64 0, .int .i64 0, .int .u64 0, .slice none 0 0, .int .i64 0, .slice none 0 0, .int .i64 0, .int .i64 0, .int .i64 0, .int .i64 0, .string ⟨([] : List UInt8).toArray⟩, .bool false] [.int .i64 x_1.Do, .int .i64 x_1.Len, .int .u64 (x_1.Sum.toNat : Int), .slice A338_3 x_1.Bytes.length c338_3, .int .i64 x_1.Crash.After, .slice A338_5 x_1.Crash.Torn.length c338_5, .int .i64 x_1.Call.Do, .int .i64 x_1.Call.Ino, .int .i64 x_1.Call.A, .int .i64 x_1.Call.B, .string ⟨x_1.Call.Name.toArray⟩, .bool x_1.Call.On] 29 H rfl (by kernel_rfl) (by kernel_rfl) (by rfl) (of_decide_eq_true rfl) rfl ?_)
            intro w346 H
            refine endD2 (by kernel_rfl) H.has ?_
            refine leJ (x_.Do, x_.Len, x_.Sum, x_.Bytes, x_.Crash.After, x_.Crash.Torn, x_.Call.Do, x_.Call.Ino, x_.Call.A, x_.Call.B, x_.Call.Name, x_.Call.On, x_1.Do, x_1.Len, x_1.Sum, x_1.Bytes, x_1.Crash.After, x_1.Crash.Torn, x_1.Call.Do, x_1.Call.Ino, x_1.Call.A, x_1.Call.B, x_1.Call.Name, x_1.Call.On, g344, A337_3, c337_3, A337_5, c337_5, g343, A338_3, c338_3, A338_5, c338_5, mm316) ⟨(Option.some.inj hp326).symm, H, (Sub.refl _), hs337_3, hs337_5, hs338_3, hs338_5, hl337_10, hl338_10⟩ (by kernel_rfl)
        rintro ⟨Do, Len, Sum, Bytes, After, Torn, Do1, Ino, A, B_, Name, On, Do2, Len1, Sum1, Bytes1, After1, Torn1, Do3, Ino1, A1, B_1, Name1, On1, g_1_327, A_2_327, c_3_327, A_4_327, c_5_327, g_6_327, A_7_327, c_8_327, A_9_327, c_10_327, mm327⟩ wj326 ⟨hy326, H, hsub327, hs327_0, hs327_1, hs327_2, hs327_3, hl327_0, hl327_1⟩
        try dsimp only at hy326
        try dsimp only at H
        try dsimp only at hsub327
        try dsimp only at hs327_0
        try dsimp only at hs327_1
        try dsimp only at hs327_2
        try dsimp only at hs327_3
        try dsimp only at hl327_0
        try dsimp only at hl327_1
        rw [hy326] at hb_315
        try dsimp only at hb_315
        refine seg 5 [.co [1, 1, 0, 1, 0, 0, 1, 0, 0, 1, 0, 1], .co [1, 1, 0, 1, 0, 0, 1, 0, 0, 1, 1], .bl 1, .co [1, 1, 0, 1, 0, 0, 1, 1], .le 1, .bl 0, .le 0, .co [1, 1, 1]] [(0, .slice A0_0 a.length c0_0), (1, .slice A1_0 b.length c1_0), (2, .bool plain1), (7, .int .i64 (i : Int)), (8, .pointer (some (⟨g_1_327, 0, none⟩))), (9, .pointer (some (⟨g_6_327, 0, none⟩))), (29, .bool plain1)] (by kernel_rfl) ?_
        obtain ⟨y352, hp352, hb_315⟩ := bindE hb_315
        refine joinR 2 (fun (x : Bool × Int × Int × UInt64 × (List UInt8) × Int × (List UInt8) × Int × Int × Int × Int × (List UInt8) × Bool × Int × Int × UInt64 × (List UInt8) × Int × (List UInt8) × Int × Int × Int × Int × (List UInt8) × Bool × Option Addr × Nat × Option Addr × Nat × Option Addr × Nat × Option Addr × Nat × Mem) => [(0, .slice A0_0 a.length c0_0), (1, .slice A1_0 b.length c1_0), (2, .bool x.1), (7, .int .i64 (i : Int)), (8, .pointer (some (⟨g_1_327, 0, none⟩))), (9, .pointer (some (⟨g_6_327, 0, none⟩)))]) (fun (x : Bool × Int × Int × UInt64 × (List UInt8) × Int × (List UInt8) × Int × Int × Int × Int × (List UInt8) × Bool × Int × Int × UInt64 × (List UInt8) × Int × (List UInt8) × Int × Int × Int × Int × (List UInt8) × Bool × Option Addr × Nat × Option Addr × Nat × Option Addr × Nat × Option Addr × Nat × Mem) (wj352 : World) => y352 = (x.1, x.2.1, x.2.2.1, x.2.2.2.1, x.2.2.2.2.1, x.2.2.2.2.2.1, x.2.2.2.2.2.2.1, x.2.2.2.2.2.2.2.1, x.2.2.2.2.2.2.2.2.1, x.2.2.2.2.2.2.2.2.2.1, x.2.2.2.2.2.2.2.2.2.2.1, x.2.2.2.2.2.2.2.2.2.2.2.1, x.2.2.2.2.2.2.2.2.2.2.2.2.1, x.2.2.2.2.2.2.2.2.2.2.2.2.2.1, x.2.2.2.2.2.2.2.2.2.2.2.2.2.2.1, x.2.2.2.2.2.2.2.2.2.2.2.2.2.2.2.1, x.2.2.2.2.2.2.2.2.2.2.2.2.2.2.2.2.1, x.2.2.2.2.2.2.2.2.2.2.2.2.2.2.2.2.2.1, x.2.2.2.2.2.2.2.2.2.2.2.2.2.2.2.2.2.2.1, x.2.2.2.2.2.2.2.2.2.2.2.2.2.2.2.2.2.2.2.1, x.2.2.2.2.2.2.2.2.2.2.2.2.2.2.2.2.2.2.2.2.1, x.2.2.2.2.2.2.2.2.2.2.2.2.2.2.2.2.2.2.2.2.2.1, x.2.2.2.2.2.2.2.2.2.2.2.2.2.2.2.2.2.2.2.2.2.2.1, x.2.2.2.2.2.2.2.2.2.2.2.2.2.2.2.2.2.2.2.2.2.2.2.1, x.2.2.2.2.2.2.2.2.2.2.2.2.2.2.2.2.2.2.2.2.2.2.2.2.1) ∧ St w noF m x.2.2.2.2.2.2.2.2.2.2.2.2.2.2.2.2.2.2.2.2.2.2.2.2.2.2.2.2.2.2.2.2.2 [blkI g_1_327 [.int .i64 x.2.1, .int .i64 x.2.2.1, .int .u64 (x.2.2.2.1.toNat : Int), .slice (x.2.2.2.2.2.2.2.2.2.2.2.2.2.2.2.2.2.2.2.2.2.2.2.2.2.1) x.2.2.2.2.1.length (x.2.2.2.2.2.2.2.2.2.2.2.2.2.2.2.2.2.2.2.2.2.2.2.2.2.2.1), .int .i64 x.2.2.2.2.2.1, .slice (x.2.2.2.2.2.2.2.2.2.2.2.2.2.2.2.2.2.2.2.2.2.2.2.2.2.2.2.1) x.2.2.2.2.2.2.1.length (x.2.2.2.2.2.2.2.2.2.2.2.2.2.2.2.2.2.2.2.2.2.2.2.2.2.2.2.2.1), .int .i64 x.2.2.2.2.2.2.2.1, .int .i64 x.2.2.2.2.2.2.2.2.1, .int .i64 x.2.2.2.2.2.2.2.2.2.1, .int .i64 x.2.2.2.2.2.2.2.2.2.2.1, .string ⟨x.2.2.2.2.2.2.2.2.2.2.2.1.toArray⟩, .bool x.2.2.2.2.2.2.2.2.2.2.2.2.1] 29, blkI g_6_327 [.int .i64 x.2.2.2.2.2.2.2.2.2.2.2.2.2.1, .int .i64 x.2.2.2.2.2.2.2.2.2.2.2.2.2.2.1, .int .u64 (x.2.2.2.2.2.2.2.2.2.2.2.2.2.2.2.1.toNat : Int), .slice (x.2.2.2.2.2.2.2.2.2.2.2.2.2.2.2.2.2.2.2.2.2.2.2.2.2.2.2.2.2.1) x.2.2.2.2.2.2.2.2.2.2.2.2.2.2.2.2.1.length (x.2.2.2.2.2.2.2.2.2.2.2.2.2.2.2.2.2.2.2.2.2.2.2.2.2.2.2.2.2.2.1), .int .i64 x.2.2.2.2.2.2.2.2.2.2.2.2.2.2.2.2.2.1, .slice (x.2.2.2.2.2.2.2.2.2.2.2.2.2.2.2.2.2.2.2.2.2.2.2.2.2.2.2.2.2.2.2.1) x.2.2.2.2.2.2.2.2.2.2.2.2.2.2.2.2.2.2.1.length (x.2.2.2.2.2.2.2.2.2.2.2.2.2.2.2.2.2.2.2.2.2.2.2.2.2.2.2.2.2.2.2.2.1), .int .i64 x.2.2.2.2.2.2.2.2.2.2.2.2.2.2.2.2.2.2.2.1, .int .i64 x.2.2.2.2.2.2.2.2.2.2.2.2.2.2.2.2.2.2.2.2.1, .int .i64 x.2.2.2.2.2.2.2.2.2.2.2.2.2.2.2.2.2.2.2.2.2.1, .int .i64 x.2.2.2.2.2.2.2.2.2.2.2.2.2.2.2.2.2.2.2.2.2.2.1, .string ⟨x.2.2.2.2.2.2.2.2.2.2.2.2.2.2.2.2.2.2.2.2.2.2.2.1.toArray⟩, .bool x.2.2.2.2.2.2.2.2.2.2.2.2.2.2.2.2.2.2.2.2.2.2.2.2.1] 29] wj352 ∧ Sub mm327 x.2.2.2.2.2.2.2.2.2.2.2.2.2.2.2.2.2.2.2.2.2.2.2.2.2.2.2.2.2.2.2.2.2 ∧ SlI rU8 x.2.2.2.2.2.2.2.2.2.2.2.2.2.2.2.2.2.2.2.2.2.2.2.2.2.2.2.2.2.2.2.2.2 x.2.2.2.2.2.2.2.2.2.2.2.2.2.2.2.2.2.2.2.2.2.2.2.2.2.1 x.2.2.2.2.2.2.2.2.2.2.2.2.2.2.2.2.2.2.2.2.2.2.2.2.2.2.1 x.2.2.2.2.1 ∧ SlI rU8 x.2.2.2.2.2.2.2.2.2.2.2.2.2.2.2.2.2.2.2.2.2.2.2.2.2.2.2.2.2.2.2.2.2 x.2.2.2.2.2.2.2.2.2.2.2.2.2.2.2.2.2.2.2.2.2.2.2.2.2.2.2.1 x.2.2.2.2.2.2.2.2.2.2.2.2.2.2.2.2.2.2.2.2.2.2.2.2.2.2.2.2.1 x.2.2.2.2.2.2.1 ∧ SlI rU8 x.2.2.2.2.2.2.2.2.2.2.2.2.2.2.2.2.2.2.2.2.2.2.2.2.2.2.2.2.2.2.2.2.2 x.2.2.2.2.2.2.2.2.2.2.2.2.2.2.2.2.2.2.2.2.2.2.2.2.2.2.2.2.2.1 x.2.2.2.2.2.2.2.2.2.2.2.2.2.2.2.2.2.2.2.2.2.2.2.2.2.2.2.2.2.2.1 x.2.2.2.2.2.2.2.2.2.2.2.2.2.2.2.2.1 ∧ SlI rU8 x.2.2.2.2.2.2.2.2.2.2.2.2.2.2.2.2.2.2.2.2.2.2.2.2.2.2.2.2.2.2.2.2.2 x.2.2.2.2.2.2.2.2.2.2.2.2.2.2.2.2.2.2.2.2.2.2.2.2.2.2.2.2.2.2.2.1 x.2.2.2.2.2.2.2.2.2.2.2.2.2.2.2.2.2.2.2.2.2.2.2.2.2.2.2.2.2.2.2.2.1 x.2.2.2.2.2.2.2.2.2.2.2.2.2.2.2.2.2.2.1 ∧ x.2.2.2.2.2.2.2.2.2.2.2.1.length ≤ 9223372036854775807 ∧ x.2.2.2.2.2.2.2.2.2.2.2.2.2.2.2.2.2.2.2.2.2.2.2.1.length ≤ 9223372036854775807) (by kernel_rfl) ?_ ?_
        · rcases condT hp352 with ⟨hb354, hp352⟩ | ⟨hb354, hp352⟩
          · rw [hb354]
            refine seg 1 [.co [1, 1, 0, 1, 0, 0, 1, 0, 0, 1, 0, 1, 0], .le 2, .co [1, 1, 0, 1, 0, 0, 1, 0, 0, 1, 1], .bl 1, .co [1, 1, 0, 1, 0, 0, 1, 1], .le 1, .bl 0, .le 0, .co [1, 1, 1]] [(0, .slice A0_0 a.length c0_0), (1, .slice A1_0 b.length c1_0), (2, .bool true), (7, .int .i64 (i : Int)), (8, .pointer (some (⟨g_1_327, 0, none⟩))), (9, .pointer (some (⟨g_6_327, 0, none⟩)))] (by kernel_rfl) ?_
            obtain ⟨plain2, h_plain2, hp352⟩ := bindE hp352
            obtain ⟨plain3, h_plain3, hp352⟩ := bindE hp352
            have hst : statB (bodyOf Tryd.f12) [1, 1, 0, 1, 0, 0, 1, 0, 0, 1, 0, 1, 0] = true := by kernel_rfl
            refine drawS (Has mm327) H (by kernel_rfl) (by kernel_rfl) ?_
            intro w359 H
            refine allD2 [0, 2] (by kernel_rfl) H.has ⟨?_, ?_, trivial⟩
            · replace H : St w noF m mm327 [blkI g_1_327 [.int .i64 Do, .int .i64 Len, .int .u64 (Sum.toNat : Int), .slice A_2_327 Bytes.length c_3_327, .int .i64 After, .slice A_4_327 Torn.length c_5_327, .int .i64 Do1, .int .i64 Ino, .int .i64 A, .int .i64 B_, .string ⟨Name.toArray⟩, .bool On] 29, blkI g_6_327 [.int .i64 Do2, .int .i64 Len1, .int .u64 (Sum1.toNat : Int), .slice A_7_327 Bytes1.length c_8_327, .int .i64 After1, .slice A_9_327 Torn1.length c_10_327, .int .i64 Do3, .int .i64 Ino1, .int .i64 A1, .int .i64 B_1, .string ⟨Name1.toArray⟩, .bool On1] 29] w359 := H
              refine (ldAggR (some 30) 29 (⟨g_1_327, 0, none⟩) [.int .i64 Do, .int .i64 Len, .int .u64 (Sum.toNat : Int), .slice A_2_327 Bytes.length c_3_327, .int .i64 After, .slice A_4_327 Torn.length c_5_327, .int .i64 Do1, .int .i64 Ino, .int .i64 A, .int .i64 B_, .string ⟨Name.toArray⟩, .bool On] (by kernel_rfl) (by kernel_rfl) (H.cellsB 0 rfl (by rfl)) ?_)
              refine allD2 [1, 2] (by kernel_rfl) H.has ⟨?_, ?_, trivial⟩
              · refine (callR (some 31) 13 #[.agg #[.int .i64 Do, .int .i64 Len, .int .u64 (Sum.toNat : Int), .slice A_2_327 Bytes.length c_3_327, .int .i64 After, .slice A_4_327 Torn.length c_5_327, .int .i64 Do1, .int .i64 Ino, .int .i64 A, .int .i64 B_, .string ⟨Name.toArray⟩, .bool On]] Tryd.call13 (ref31_Plain_c H.has ({ Do := Do, Len := Len, Sum := Sum, Bytes := Bytes, Crash := ({ After := After, Torn := Torn } : TApiCrash), Call := ({ Do := Do1, Ino := Ino, A := A, B := B_, Name := Name, On := On } : TApiCall) } : TApiAct) A_2_327 c_3_327 hs327_0 A_4_327 c_5_327 hs327_1 hl327_0 h_plain2) (by kernel_rfl) ?_)
                rintro _ w360 ⟨A360_0_3, c360_0_3, A360_0_5, c360_0_5, mk360, rfl, hS360, hs360_0, hs360_1, hl360_0⟩
                have hsub360 := hS360.sub
                replace H := H.call0 hS360
                refine stD2 (i := 2) (by kernel_rfl) (H.has.sub hsub360) (ldAggR (some 32) 29 (⟨g_6_327, 0, none⟩) [.int .i64 Do2, .int .i64 Len1, .int .u64 (Sum1.toNat : Int), .slice A_7_327 Bytes1.length c_8_327, .int .i64 After1, .slice A_9_327 Torn1.length c_10_327, .int .i64 Do3, .int .i64 Ino1, .int .i64 A1, .int .i64 B_1, .string ⟨Name1.toArray⟩, .bool On1] (by kernel_rfl) (by kernel_rfl) (H.cellsB 1 rfl (by rfl)) ?_)
                refine stD2 (i := 3) (by kernel_rfl) (H.has.sub hsub360) (callR (some 33) 13 #[.agg #[.int .i64 Do2, .int .i64 Len1, .int .u64 (Sum1.toNat : Int), .slice A_7_327 Bytes1.length c_8_327, .int .i64 After1, .slice A_9_327 Torn1.length c_10_327, .int .i64 Do3, .int .i64 Ino1, .int .i64 A1, .int .i64 B_1, .string ⟨Name1.toArray⟩, .bool On1]] Tryd.call13 (ref31_Plain_c H.has ({ Do := Do2, Len := Len1, Sum := Sum1, Bytes := Bytes1, Crash := ({ After := After1, Torn := Torn1 } : TApiCrash), Call := ({ Do := Do3, Ino := Ino1, A := A1, B := B_1, Name := Name1, On := On1 } : TApiCall) } : TApiAct) A_7_327 c_8_327 (hs327_2.mono hsub360) A_9_327 c_10_327 (hs327_3.mono hsub360) hl327_1 h_plain3) (by kernel_rfl) ?_)
                rintro _ w361 ⟨A361_0_3, c361_0_3, A361_0_5, c361_0_5, mk361, rfl, hS361, hs361_0, hs361_1, hl361_0⟩
                have hsub361 := hS361.sub
                replace H := H.call0 hS361
                refine stD2 (i := 4) (by kernel_rfl) (H.has.sub (hsub360.trans hsub361)) (stAggS none 29 0 g_1_327 0 [.int .i64 plain2.Do, .int .i64 plain2.Len, .int .u64 (plain2.Sum.toNat : Int), .slice A360_0_3 plain2.Bytes.length c360_0_3, .int .i64 plain2.Crash.After, .slice A360_0_5 plain2.Crash.Torn.length c360_0_5, .int .i64 plain2.Call.Do, .int .i64 plain2.Call.Ino, .int .i64 plain2.Call.A, .int .i64 plain2.Call.B, .string ⟨plain2.Call.Name.toArray⟩, .bool plain2.Call.On] [.int .i64 Do, .int .i64 Len, .int .u64 (Sum.toNat : Int), .slice A_2_327 Bytes.length c_3_327, .int .i64 After, .slice A_4_327 Torn.length c_5_327, .int .i64 Do1, .int .i64 Ino, .int .i64 A, .int .i64 B_, .string ⟨Name.toArray⟩, .bool On] [.int .i64 plain2.Do, .int .i64 plain2.Len, .int .u64 (plain2.Sum.toNat : Int), .slice A360_0_3 plain2.Bytes.length c360_0_3, .int .i64 plain2.Crash.After, .slice A360_0_5 plain2.Crash.Torn.length c360_0_5, .int .i64 plain2.Call.Do, .int .i64 plain2.Call.Ino, .int .i64 plain2.Call.A, .int .i64 plain2.Call.B, .string ⟨plain2.Call.Name.toArray⟩, .bool plain2.Call.On] 29 H rfl (by kernel_rfl) (by kernel_rfl) (by rfl) (of_decide_eq_true rfl) rfl ?_)
                intro w362 H
                refine stD2 (i := 5) (by kernel_rfl) (H.has.sub (hsub360.trans hsub361)) (stAggS none 29 1 g_6_327 0 [.int .i64 plain3.Do, .int .i64 plain3.Len, .int .u64 (plain3.Sum.toNat : Int), .slice A361_0_3 plain3.Bytes.length c361_0_3, .int .i64 plain3.Crash.After, .slice A361_0_5 plain3.Crash.Torn.length c361_0_5, .int .i64 plain3.Call.Do, .int .i64 plain3.Call.Ino, .int .i64 plain3.Call.A, .int .i64 plain3.Call.B, .string ⟨plain3.Call.Name.toArray⟩, .bool plain3.Call.On] [.int .i64 Do2, .int .i64 Len1, .int .u64 (Sum1.toNat : Int), .slice A_7_327 Bytes1.length c_8_327, .int .i64 After1, .slice A_9_327 Torn1.length c_10_327, .int .i64 Do3, .int .i64 Ino1, .int .i64 A1, .int .i64 B_1, .string ⟨Name1.toArray⟩, .bool On1] [.int .i64 plain3.Do, .int .i64 plain3.Len, .int .u64 (plain3.Sum.toNat : Int), .slice A361_0_3 plain3.Bytes.length c361_0_3, .int .i64 plain3.Crash.After, .slice A361_0_5 plain3.Crash.Torn.length c361_0_5, .int .i64 plain3.Call.Do, .int .i64 plain3.Call.Ino, .int .i64 plain3.Call.A, .int .i64 plain3.Call.B, .string ⟨plain3.Call.Name.toArray⟩, .bool plain3.Call.On] 29 H rfl (by kernel_rfl) (by kernel_rfl) (by rfl) (of_decide_eq_true rfl) rfl ?_)
                intro w363 H
                refine endD2 (by kernel_rfl) (H.has.sub (hsub360.trans hsub361)) ?_
                refine leJ (true, plain2.Do, plain2.Len, plain2.Sum, plain2.Bytes, plain2.Crash.After, plain2.Crash.Torn, plain2.Call.Do, plain2.Call.Ino, plain2.Call.A, plain2.Call.B, plain2.Call.Name, plain2.Call.On, plain3.Do, plain3.Len, plain3.Sum, plain3.Bytes, plain3.Crash.After, plain3.Crash.Torn, plain3.Call.Do, plain3.Call.Ino, plain3.Call.A, plain3.Call.B, plain3.Call.Name, plain3.Call.On, A360_0_3, c360_0_3, A360_0_5, c360_0_5, A361_0_3, c361_0_3, A361_0_5, c361_0_5, mk361) ⟨(Option.some.inj hp352).symm, H, (hsub360.trans hsub361), (hs360_0.mono hsub361), (hs360_1.mono hsub361), hs361_0, hs361_1, hl360_0, hl361_0⟩ (by kernel_rfl)
              · replace H : St w noF m mm327 [blkI g_1_327 [.int .i64 Do, .int .i64 Len, .int .u64 (Sum.toNat : Int), .slice A_2_327 Bytes.length c_3_327, .int .i64 After, .slice A_4_327 Torn.length c_5_327, .int .i64 Do1, .int .i64 Ino, .int .i64 A, .int .i64 B_, .string ⟨Name.toArray⟩, .bool On] 29, blkI g_6_327 [.int .i64 Do2, .int .i64 Len1, .int .u64 (Sum1.toNat : Int), .slice A_7_327 Bytes1.length c_8_327, .int .i64 After1, .slice A_9_327 Torn1.length c_10_327, .int .i64 Do3, .int .i64 Ino1, .int .i64 A1, .int .i64 B_1, .string ⟨Name1.toArray⟩, .bool On1] 29] w359 := H
                refine (ldAggR (some 32) 29 (⟨g_6_327, 0, none⟩) [.int .i64 Do2, .int .i64 Len1, .int .u64 (Sum1.toNat : Int), .slice A_7_327 Bytes1.length c_8_327, .int .i64 After1, .slice A_9_327 Torn1.length c_10_327, .int .i64 Do3, .int .i64 Ino1, .int .i64 A1, .int .i64 B_1, .string ⟨Name1.toArray⟩, .bool On1] (by kernel_rfl) (by kernel_rfl) (H.cellsB 1 rfl (by rfl)) ?_)
                refine stD2 (i := 1) (by kernel_rfl) H.has (callR (some 31) 13 #[.agg #[.int .i64 Do, .int .i64 Len, .int .u64 (Sum.toNat : Int), .slice A_2_327 Bytes.length c_3_327, .int .i64 After, .slice A_4_327 Torn.length c_5_327, .int .i64 Do1, .int .i64 Ino, .int .i64 A, .int .i64 B_, .string ⟨Name.toArray⟩, .bool On]] Tryd.call13 (ref31_Plain_c H.has ({ Do := Do, Len := Len, Sum := Sum, Bytes := Bytes, Crash := ({ After := After, Torn := Torn } : TApiCrash), Call := ({ Do := Do1, Ino := Ino, A := A, B := B_, Name := Name, On := On } : TApiCall) } : TApiAct) A_2_327 c_3_327 hs327_0 A_4_327 c_5_327 hs327_1 hl327_0 h_plain2) (by kernel_rfl) ?_)
                rintro _ w364 ⟨A364_0_3, c364_0_3, A364_0_5, c364_0_5, mk364, rfl, hS364, hs364_0, hs364_1, hl364_0⟩
                have hsub364 := hS364.sub
                replace H := H.call0 hS364
                refine stD2 (i := 3) (by kernel_rfl) (H.has.sub hsub364) (callR (some 33) 13 #[.agg #[.int .i64 Do2, .int .i64 Len1, .int .u64 (Sum1.toNat : Int), .slice A_7_327 Bytes1.length c_8_327, .int .i64 After1, .slice A_9_327 Torn1.length c_10_327, .int .i64 Do3, .int .i64 Ino1, .int .i64 A1, .int .i64 B_1, .string ⟨Name1.toArray⟩, .bool On1]] Tryd.call13 (ref31_Plain_c H.has ({ Do := Do2, Len := Len1, Sum := Sum1, Bytes := Bytes1, Crash := ({ After := After1, Torn := Torn1 } : TApiCrash), Call := ({ Do := Do3, Ino := Ino1, A := A1, B := B_1, Name := Name1, On := On1 } : TApiCall) } : TApiAct) A_7_327 c_8_327 (hs327_2.mono hsub364) A_9_327 c_10_327 (hs327_3.mono hsub364) hl327_1 h_plain3) (by kernel_rfl) ?_)
                rintro _ w365 ⟨A365_0_3, c365_0_3, A365_0_5, c365_0_5, mk365, rfl, hS365, hs365_0, hs365_1, hl365_0⟩
                have hsub365 := hS365.sub
                replace H := H.call0 hS365
                refine stD2 (i := 4) (by kernel_rfl) (H.has.sub (hsub364.trans hsub365)) (stAggS none 29 0 g_1_327 0 [.int .i64 plain2.Do, .int .i64 plain2.Len, .int .u64 (plain2.Sum.toNat : Int), .slice A364_0_3 plain2.Bytes.length c364_0_3, .int .i64 plain2.Crash.After, .slice A364_0_5 plain2.Crash.Torn.length c364_0_5, .int .i64 plain2.Call.Do, .int .i64 plain2.Call.Ino, .int .i64 plain2.Call.A, .int .i64 plain2.Call.B, .string ⟨plain2.Call.Name.toArray⟩, .bool plain2.Call.On] [.int .i64 Do, .int .i64 Len, .int .u64 (Sum.toNat : Int), .slice A_2_327 Bytes.length c_3_327, .int .i64 After, .slice A_4_327 Torn.length c_5_327, .int .i64 Do1, .int .i64 Ino, .int .i64 A, .int .i64 B_, .string ⟨Name.toArray⟩, .bool On] [.int .i64 plain2.Do, .int .i64 plain2.Len, .int .u64 (plain2.Sum.toNat : Int), .slice A364_0_3 plain2.Bytes.length c364_0_3, .int .i64 plain2.Crash.After, .slice A364_0_5 plain2.Crash.Torn.length c364_0_5, .int .i64 plain2.Call.Do, .int .i64 plain2.Call.Ino, .int .i64 plain2.Call.A, .int .i64 plain2.Call.B, .string ⟨plain2.Call.Name.toArray⟩, .bool plain2.Call.On] 29 H rfl (by kernel_rfl) (by kernel_rfl) (by rfl) (of_decide_eq_true rfl) rfl ?_)
                intro w366 H
                refine stD2 (i := 5) (by kernel_rfl) (H.has.sub (hsub364.trans hsub365)) (stAggS none 29 1 g_6_327 0 [.int .i64 plain3.Do, .int .i64 plain3.Len, .int .u64 (plain3.Sum.toNat : Int), .slice A365_0_3 plain3.Bytes.length c365_0_3, .int .i64 plain3.Crash.After, .slice A365_0_5 plain3.Crash.Torn.length c365_0_5, .int .i64 plain3.Call.Do, .int .i64 plain3.Call.Ino, .int .i64 plain3.Call.A, .int .i64 plain3.Call.B, .string ⟨plain3.Call.Name.toArray⟩, .bool plain3.Call.On] [.int .i64 Do2, .int .i64 Len1, .int .u64 (Sum1.toNat : Int), .slice A_7_327 Bytes1.length c_8_327, .int .i64 After1, .slice A_9_327 Torn1.length c_10_327, .int .i64 Do3, .int .i64 Ino1, .int .i64 A1, .int .i64 B_1, .string ⟨Name1.toArray⟩, .bool On1] [.int .i64 plain3.Do, .int .i64 plain3.Len, .int .u64 (plain3.Sum.toNat : Int), .slice A365_0_3 plain3.Bytes.length c365_0_3, .int .i64 plain3.Crash.After, .slice A365_0_5 plain3.Crash.Torn.length c365_0_5, .int .i64 plain3.Call.Do, .int .i64 plain3.Call.Ino, .int .i64 plain3.Call.A, .int .i64 plain3.Call.B, .string ⟨plain3.Call.Name.toArray⟩, .bool plain3.Call.On] 29 H rfl (by kernel_rfl) (by kernel_rfl) (by rfl) (of_decide_eq_true rfl) rfl ?_)
                intro w367 H
                refine endD2 (by kernel_rfl) (H.has.sub (hsub364.trans hsub365)) ?_
                refine leJ (true, plain2.Do, plain2.Len, plain2.Sum, plain2.Bytes, plain2.Crash.After, plain2.Crash.Torn, plain2.Call.Do, plain2.Call.Ino, plain2.Call.A, plain2.Call.B, plain2.Call.Name, plain2.Call.On, plain3.Do, plain3.Len, plain3.Sum, plain3.Bytes, plain3.Crash.After, plain3.Crash.Torn, plain3.Call.Do, plain3.Call.Ino, plain3.Call.A, plain3.Call.B, plain3.Call.Name, plain3.Call.On, A364_0_3, c364_0_3, A364_0_5, c364_0_5, A365_0_3, c365_0_3, A365_0_5, c365_0_5, mk365) ⟨(Option.some.inj hp352).symm, H, (hsub364.trans hsub365), (hs364_0.mono hsub365), (hs364_1.mono hsub365), hs365_0, hs365_1, hl364_0, hl365_0⟩ (by kernel_rfl)
            · replace H : St w noF m mm327 [blkI g_1_327 [.int .i64 Do, .int .i64 Len, .int .u64 (Sum.toNat : Int), .slice A_2_327 Bytes.length c_3_327, .int .i64 After, .slice A_4_327 Torn.length c_5_327, .int .i64 Do1, .int .i64 Ino, .int .i64 A, .int .i64 B_, .string ⟨Name.toArray⟩, .bool On] 29, blkI g_6_327 [.int .i64 Do2, .int .i64 Len1, .int .u64 (Sum1.toNat : Int), .slice A_7_327 Bytes1.length c_8_327, .int .i64 After1, .slice A_9_327 Torn1.length c_10_327, .int .i64 Do3, .int .i64 Ino1, .int .i64 A1, .int .i64 B_1, .string ⟨Name1.toArray⟩, .bool On1] 29] w359 := H
              refine (ldAggR (some 32) 29 (⟨g_6_327, 0, none⟩) [.int .i64 Do2, .int .i64 Len1, .int .u64 (Sum1.toNat : Int), .slice A_7_327 Bytes1.length c_8_327, .int .i64 After1, .slice A_9_327 Torn1.length c_10_327, .int .i64 Do3, .int .i64 Ino1, .int .i64 A1, .int .i64 B_1, .string ⟨Name1.toArray⟩, .bool On1] (by kernel_rfl) (by kernel_rfl) (H.cellsB 1 rfl (by rfl)) ?_)
              refine stD2 (i := 0) (by kernel_rfl) H.has (ldAggR (some 30) 29 (⟨g_1_327, 0, none⟩) [.int .i64 Do, .int .i64 Len, .int .u64 (Sum.toNat : Int), .slice A_2_327 Bytes.length c_3_327, .int .i64 After, .slice A_4_327 Torn.length c_5_327, .int .i64 Do1, .int .i64 Ino, .int .i64 A, .int .i64 B_, .string ⟨Name.toArray⟩, .bool On] (by kernel_rfl) (by kernel_rfl) (H.cellsB 0 rfl (by rfl)) ?_)
              refine stD2 (i := 1) (by kernel_rfl) H.has (callR (some 31) 13 #[.agg #[.int .i64 Do, .int .i64 Len, .int .u64 (Sum.toNat : Int), .slice A_2_327 Bytes.length c_3_327, .int .i64 After, .slice A_4_327 Torn.length c_5_327, .int .i64 Do1, .int .i64 Ino, .int .i64 A, .int .i64 B_, .string ⟨Name.toArray⟩, .bool On]] Tryd.call13 (ref31_Plain_c H.has ({ Do := Do, Len := Len, Sum := Sum, Bytes := Bytes, Crash := ({ After := After, Torn := Torn } : TApiCrash), Call := ({ Do := Do1, Ino := Ino, A := A, B := B_, Name := Name, On := On } : TApiCall) } : TApiAct) A_2_327 c_3_327 hs327_0 A_4_327 c_5_327 hs327_1 hl327_0 h_plain2) (by kernel_rfl) ?_)
              rintro _ w368 ⟨A368_0_3, c368_0_3, A368_0_5, c368_0_5, mk368, rfl, hS368, hs368_0, hs368_1, hl368_0⟩
              have hsub368 := hS368.sub
              replace H := H.call0 hS368
              refine stD2 (i := 3) (by kernel_rfl) (H.has.sub hsub368) (callR (some 33) 13 #[.agg #[.int .i64 Do2, .int .i64 Len1, .int .u64 (Sum1.toNat : Int), .slice A_7_327 Bytes1.length c_8_327, .int .i64 After1, .slice A_9_327 Torn1.length c_10_327, .int .i64 Do3, .int .i64 Ino1, .int .i64 A1, .int .i64 B_1, .string ⟨Name1.toArray⟩, .bool On1]] Tryd.call13 (ref31_Plain_c H.has ({ Do := Do2, Len := Len1, Sum := Sum1, Bytes := Bytes1, Crash := ({ After := After1, Torn := Torn1 } : TApiCrash), Call := ({ Do := Do3, Ino := Ino1, A := A1, B := B_1, Name := Name1, On := On1 } : TApiCall) } : TApiAct) A_7_327 c_8_327 (hs327_2.mono hsub368) A_9_327 c_10_327 (hs327_3.mono hsub368) hl327_1 h_plain3) (by kernel_rfl) ?_)
              rintro _ w369 ⟨A369_0_3, c369_0_3, A369_0_5, c369_0_5, mk369, rfl, hS369, hs369_0, hs369_1, hl369_0⟩
              have hsub369 := hS369.sub
              replace H := H.call0 hS369
              refine stD2 (i := 4) (by kernel_rfl) (H.has.sub (hsub368.trans hsub369)) (stAggS none 29 0 g_1_327 0 [.int .i64 plain2.Do, .int .i64 plain2.Len, .int .u64 (plain2.Sum.toNat : Int), .slice A368_0_3 plain2.Bytes.length c368_0_3, .int .i64 plain2.Crash.After, .slice A368_0_5 plain2.Crash.Torn.length c368_0_5, .int .i64 plain2.Call.Do, .int .i64 plain2.Call.Ino, .int .i64 plain2.Call.A, .int .i64 plain2.Call.B, .string ⟨plain2.Call.Name.toArray⟩, .bool plain2.Call.On] [.int .i64 Do, .int .i64 Len, .int .u64 (Sum.toNat : Int), .slice A_2_327 Bytes.length c_3_327, .int .i64 After, .slice A_4_327 Torn.length c_5_327, .int .i64 Do1, .int .i64 Ino, .int .i64 A, .int .i64 B_, .string ⟨Name.toArray⟩, .bool On] [.int .i64 plain2.Do, .int .i64 plain2.Len, .int .u64 (plain2.Sum.toNat : Int), .slice A368_0_3 plain2.Bytes.length c368_0_3, .int .i64 plain2.Crash.After, .slice A368_0_5 plain2.Crash.Torn.length c368_0_5, .int .i64 plain2.Call.Do, .int .i64 plain2.Call.Ino, .int .i64 plain2.Call.A, .int .i64 plain2.Call.B, .string ⟨plain2.Call.Name.toArray⟩, .bool plain2.Call.On] 29 H rfl (by kernel_rfl) (by kernel_rfl) (by rfl) (of_decide_eq_true rfl) rfl ?_)
              intro w370 H
              refine stD2 (i := 5) (by kernel_rfl) (H.has.sub (hsub368.trans hsub369)) (stAggS none 29 1 g_6_327 0 [.int .i64 plain3.Do, .int .i64 plain3.Len, .int .u64 (plain3.Sum.toNat : Int), .slice A369_0_3 plain3.Bytes.length c369_0_3, .int .i64 plain3.Crash.After, .slice A369_0_5 plain3.Crash.Torn.length c369_0_5, .int .i64 plain3.Call.Do, .int .i64 plain3.Call.Ino, .int .i64 plain3.Call.A, .int .i64 plain3.Call.B, .string ⟨plain3.Call.Name.toArray⟩, .bool plain3.Call.On] [.int .i64 Do2, .int .i64 Len1, .int .u64 (Sum1.toNat : Int), .slice A_7_327 Bytes1.length c_8_327, .int .i64 After1, .slice A_9_327 Torn1.length c_10_327, .int .i64 Do3, .int .i64 Ino1, .int .i64 A1, .int .i64 B_1, .string ⟨Name1.toArray⟩, .bool On1] [.int .i64 plain3.Do, .int .i64 plain3.Len, .int .u64 (plain3.Sum.toNat : Int), .slice A369_0_3 plain3.Bytes.length c369_0_3, .int .i64 plain3.Crash.After, .slice A369_0_5 plain3.Crash.Torn.length c369_0_5, .int .i64 plain3.Call.Do, .int .i64 plain3.Call.Ino, .int .i64 plain3.Call.A, .int .i64 plain3.Call.B, .string ⟨plain3.Call.Name.toArray⟩, .bool plain3.Call.On] 29 H rfl (by kernel_rfl) (by kernel_rfl) (by rfl) (of_decide_eq_true rfl) rfl ?_)
              intro w371 H
              refine endD2 (by kernel_rfl) (H.has.sub (hsub368.trans hsub369)) ?_
              refine leJ (true, plain2.Do, plain2.Len, plain2.Sum, plain2.Bytes, plain2.Crash.After, plain2.Crash.Torn, plain2.Call.Do, plain2.Call.Ino, plain2.Call.A, plain2.Call.B, plain2.Call.Name, plain2.Call.On, plain3.Do, plain3.Len, plain3.Sum, plain3.Bytes, plain3.Crash.After, plain3.Crash.Torn, plain3.Call.Do, plain3.Call.Ino, plain3.Call.A, plain3.Call.B, plain3.Call.Name, plain3.Call.On, A368_0_3, c368_0_3, A368_0_5, c368_0_5, A369_0_3, c369_0_3, A369_0_5, c369_0_5, mk369) ⟨(Option.some.inj hp352).symm, H, (hsub368.trans hsub369), (hs368_0.mono hsub369), (hs368_1.mono hsub369), hs369_0, hs369_1, hl368_0, hl369_0⟩ (by kernel_rfl)
          · rw [hb354]
            refine seg 2 [.le 2, .co [1, 1, 0, 1, 0, 0, 1, 0, 0, 1, 1], .bl 1, .co [1, 1, 0, 1, 0, 0, 1, 1], .le 1, .bl 0, .le 0, .co [1, 1, 1]] [(0, .slice A0_0 a.length c0_0), (1, .slice A1_0 b.length c1_0), (2, .bool false), (7, .int .i64 (i : Int)), (8, .pointer (some (⟨g_1_327, 0, none⟩))), (9, .pointer (some (⟨g_6_327, 0, none⟩)))] (by kernel_rfl) ?_
            refine leJ (false, Do, Len, Sum, Bytes, After, Torn, Do1, Ino, A, B_, Name, On, Do2, Len1, Sum1, Bytes1, After1, Torn1, Do3, Ino1, A1, B_1, Name1, On1, A_2_327, c_3_327, A_4_327, c_5_327, A_7_327, c_8_327, A_9_327, c_10_327, mm327) ⟨(Option.some.inj hp352).symm, H, (Sub.refl _), hs327_0, hs327_1, hs327_2, hs327_3, hl327_0, hl327_1⟩ (by kernel_rfl)
        rintro ⟨plain2, Do4, Len2, Sum2, Bytes2, After2, Torn2, Do5, Ino2, A2, B_2, Name2, On2, Do6, Len3, Sum3, Bytes3, After3, Torn3, Do7, Ino3, A3, B_3, Name3, On3, A_1_353, c_2_353, A_3_353, c_4_353, A_5_353, c_6_353, A_7_353, c_8_353, mm353⟩ wj352 ⟨hy352, H, hsub353, hs353_0, hs353_1, hs353_2, hs353_3, hl353_0, hl353_1⟩
        try dsimp only at hy352
        try dsimp only at H
        try dsimp only at hsub353
        try dsimp only at hs353_0
        try dsimp only at hs353_1
        try dsimp only at hs353_2
        try dsimp only at hs353_3
        try dsimp only at hl353_0
        try dsimp only at hl353_1
        rw [hy352] at hb_315
        try dsimp only at hb_315
        refine seg 3 [.op [1, 1, 0, 1, 0, 0, 1, 0, 0, 1, 1, 0] 1, .co [1, 1, 0, 1, 0, 0, 1, 0, 0, 1, 1, 1], .bl 1, .co [1, 1, 0, 1, 0, 0, 1, 1], .le 1, .bl 0, .le 0, .co [1, 1, 1]] [(0, .slice A0_0 a.length c0_0), (1, .slice A1_0 b.length c1_0), (2, .bool plain2), (7, .int .i64 (i : Int)), (8, .pointer (some (⟨g_1_327, 0, none⟩))), (9, .pointer (some (⟨g_6_327, 0, none⟩))), (34, .pointer (some (⟨g_1_327, 0, none⟩)))] (by kernel_rfl) ?_
        replace H : St w noF m mm353 [blkI g_1_327 [.int .i64 Do4, .int .i64 Len2, .int .u64 (Sum2.toNat : Int), .slice A_1_353 Bytes2.length c_2_353, .int .i64 After2, .slice A_3_353 Torn2.length c_4_353, .int .i64 Do5, .int .i64 Ino2, .int .i64 A2, .int .i64 B_2, .string ⟨Name2.toArray⟩, .bool On2] 29, blkI g_6_327 [.int .i64 Do6, .int .i64 Len3, .int .u64 (Sum3.toNat : Int), .slice A_5_353 Bytes3.length c_6_353, .int .i64 After3, .slice A_7_353 Torn3.length c_8_353, .int .i64 Do7, .int .i64 Ino3, .int .i64 A3, .int .i64 B_3, .string ⟨Name3.toArray⟩, .bool On3] 29] wj352 := H
        refine st (ldR (some 35) 3 (⟨g_1_327, 0, none⟩) (.int .i64 Do4) (by kernel_rfl) (by kernel_rfl) (H.cellB 0 rfl rfl) ?_)
        refine seg 1 [.op [1, 1, 0, 1, 0, 0, 1, 0, 0, 1, 1, 0] 3, .co [1, 1, 0, 1, 0, 0, 1, 0, 0, 1, 1, 1], .bl 1, .co [1, 1, 0, 1, 0, 0, 1, 1], .le 1, .bl 0, .le 0, .co [1, 1, 1]] [(0, .slice A0_0 a.length c0_0), (1, .slice A1_0 b.length c1_0), (2, .bool plain2), (7, .int .i64 (i : Int)), (8, .pointer (some (⟨g_1_327, 0, none⟩))), (9, .pointer (some (⟨g_6_327, 0, none⟩))), (35, .int .i64 Do4), (36, .pointer (some (⟨g_6_327, 0, none⟩)))] (by kernel_rfl) ?_
        refine st (ldR (some 37) 3 (⟨g_6_327, 0, none⟩) (.int .i64 Do6) (by kernel_rfl) (by kernel_rfl) (H.cellB 1 rfl rfl) ?_)
        refine seg 2 [.op [1, 1, 0, 1, 0, 0, 1, 0, 0, 1, 1, 0] 6, .co [1, 1, 0, 1, 0, 0, 1, 0, 0, 1, 1, 1], .bl 1, .co [1, 1, 0, 1, 0, 0, 1, 1], .le 1, .bl 0, .le 0, .co [1, 1, 1]] [(0, .slice A0_0 a.length c0_0), (1, .slice A1_0 b.length c1_0), (2, .bool plain2), (7, .int .i64 (i : Int)), (8, .pointer (some (⟨g_1_327, 0, none⟩))), (9, .pointer (some (⟨g_6_327, 0, none⟩))), (39, .bool (Do4 != Do6))] (by kernel_rfl) ?_
        rcases condT hb_315 with ⟨hb372, hb_315⟩ | ⟨hb372, hb_315⟩
        · rw [hb372]
          refine seg 55 [.co [1, 1, 0, 1, 0, 0, 1, 0, 0, 1, 1, 1, 0, 1], .bl 1, .co [1, 1, 0, 1, 0, 0, 1, 1], .le 1, .bl 0, .le 0, .co [1, 1, 1]] [(6, .bool false)] (by kernel_rfl) ?_
          refine retR [6] [.bool false] (by kernel_rfl) (by kernel_rfl) (by kernel_rfl) ?_
          have hret := (hfr257 _ (hfin315 _ (Option.some.inj hb_315).symm).symm)
          subst hret
          exact ⟨_, rfl, rfl, H.scalar⟩
        · rw [hb372]
          refine seg 1 [.op [1, 1, 0, 1, 0, 0, 1, 0, 0, 1, 1, 0] 7, .co [1, 1, 0, 1, 0, 0, 1, 0, 0, 1, 1, 1], .bl 1, .co [1, 1, 0, 1, 0, 0, 1, 1], .le 1, .bl 0, .le 0, .co [1, 1, 1]] [(0, .slice A0_0 a.length c0_0), (1, .slice A1_0 b.length c1_0), (2, .bool plain2), (7, .int .i64 (i : Int)), (8, .pointer (some (⟨g_1_327, 0, none⟩))), (9, .pointer (some (⟨g_6_327, 0, none⟩))), (39, .bool false), (40, .pointer (some (⟨g_1_327, 1, none⟩)))] (by kernel_rfl) ?_
          refine st (ldR (some 41) 3 (⟨g_1_327, 1, none⟩) (.int .i64 Len2) (by kernel_rfl) (by kernel_rfl) (H.cellB 0 rfl rfl) ?_)
          refine seg 1 [.op [1, 1, 0, 1, 0, 0, 1, 0, 0, 1, 1, 0] 9, .co [1, 1, 0, 1, 0, 0, 1, 0, 0, 1, 1, 1], .bl 1, .co [1, 1, 0, 1, 0, 0, 1, 1], .le 1, .bl 0, .le 0, .co [1, 1, 1]] [(0, .slice A0_0 a.length c0_0), (1, .slice A1_0 b.length c1_0), (2, .bool plain2), (7, .int .i64 (i : Int)), (8, .pointer (some (⟨g_1_327, 0, none⟩))), (9, .pointer (some (⟨g_6_327, 0, none⟩))), (39, .bool false), (41, .int .i64 Len2), (42, .pointer (some (⟨g_6_327, 1, none⟩)))] (by kernel_rfl) ?_
          refine st (ldR (some 43) 3 (⟨g_6_327, 1, none⟩) (.int .i64 Len3) (by kernel_rfl) (by kernel_rfl) (H.cellB 1 rfl rfl) ?_)
          refine seg 3 [.op [1, 1, 0, 1, 0, 0, 1, 0, 0, 1, 1, 0] 13, .co [1, 1, 0, 1, 0, 0, 1, 0, 0, 1, 1, 1], .bl 1, .co [1, 1, 0, 1, 0, 0, 1, 1], .le 1, .bl 0, .le 0, .co [1, 1, 1]] [(0, .slice A0_0 a.length c0_0), (1, .slice A1_0 b.length c1_0), (2, .bool plain2), (7, .int .i64 (i : Int)), (8, .pointer (some (⟨g_1_327, 0, none⟩))), (9, .pointer (some (⟨g_6_327, 0, none⟩))), (46, .bool (Len2 != Len3))] (by kernel_rfl) ?_
          rcases condT hb_315 with ⟨hb373, hb_315⟩ | ⟨hb373, hb_315⟩
          · rw [hb373]
            refine seg 48 [.co [1, 1, 0, 1, 0, 0, 1, 0, 0, 1, 1, 1, 0, 1], .bl 1, .co [1, 1, 0, 1, 0, 0, 1, 1], .le 1, .bl 0, .le 0, .co [1, 1, 1]] [(6, .bool false)] (by kernel_rfl) ?_
            refine retR [6] [.bool false] (by kernel_rfl) (by kernel_rfl) (by kernel_rfl) ?_
            have hret := (hfr257 _ (hfin315 _ (Option.some.inj hb_315).symm).symm)
            subst hret
            exact ⟨_, rfl, rfl, H.scalar⟩
          · rw [hb373]
            refine seg 1 [.op [1, 1, 0, 1, 0, 0, 1, 0, 0, 1, 1, 0] 14, .co [1, 1, 0, 1, 0, 0, 1, 0, 0, 1, 1, 1], .bl 1, .co [1, 1, 0, 1, 0, 0, 1, 1], .le 1, .bl 0, .le 0, .co [1, 1, 1]] [(0, .slice A0_0 a.length c0_0), (1, .slice A1_0 b.length c1_0), (2, .bool plain2), (7, .int .i64 (i : Int)), (8, .pointer (some (⟨g_1_327, 0, none⟩))), (9, .pointer (some (⟨g_6_327, 0, none⟩))), (46, .bool false), (47, .pointer (some (⟨g_1_327, 2, none⟩)))] (by kernel_rfl) ?_
            refine st (ldR (some 48) 22 (⟨g_1_327, 2, none⟩) (.int .u64 (Sum2.toNat : Int)) (by kernel_rfl) (by kernel_rfl) (H.cellB 0 rfl rfl) ?_)
            refine seg 1 [.op [1, 1, 0, 1, 0, 0, 1, 0, 0, 1, 1, 0] 16, .co [1, 1, 0, 1, 0, 0, 1, 0, 0, 1, 1, 1], .bl 1, .co [1, 1, 0, 1, 0, 0, 1, 1], .le 1, .bl 0, .le 0, .co [1, 1, 1]] [(0, .slice A0_0 a.length c0_0), (1, .slice A1_0 b.length c1_0), (2, .bool plain2), (7, .int .i64 (i : Int)), (8, .pointer (some (⟨g_1_327, 0, none⟩))), (9, .pointer (some (⟨g_6_327, 0, none⟩))), (46, .bool false), (48, .int .u64 (Sum2.toNat : Int)), (49, .pointer (some (⟨g_6_327, 2, none⟩)))] (by kernel_rfl) ?_
            refine st (ldR (some 50) 22 (⟨g_6_327, 2, none⟩) (.int .u64 (Sum3.toNat : Int)) (by kernel_rfl) (by kernel_rfl) (H.cellB 1 rfl rfl) ?_)
            refine seg 3 [.op [1, 1, 0, 1, 0, 0, 1, 0, 0, 1, 1, 0] 20, .co [1, 1, 0, 1, 0, 0, 1, 0, 0, 1, 1, 1], .bl 1, .co [1, 1, 0, 1, 0, 0, 1, 1], .le 1, .bl 0, .le 0, .co [1, 1, 1]] [(0, .slice A0_0 a.length c0_0), (1, .slice A1_0 b.length c1_0), (2, .bool plain2), (7, .int .i64 (i : Int)), (8, .pointer (some (⟨g_1_327, 0, none⟩))), (9, .pointer (some (⟨g_6_327, 0, none⟩))), (53, .bool ((Sum2.toNat : Int) != (Sum3.toNat : Int)))] (by kernel_rfl) ?_
            rcases condT hb_315 with ⟨hb374, hb_315⟩ | ⟨hb374, hb_315⟩
            · rw [hb374]
              refine seg 41 [.co [1, 1, 0, 1, 0, 0, 1, 0, 0, 1, 1, 1, 0, 1], .bl 1, .co [1, 1, 0, 1, 0, 0, 1, 1], .le 1, .bl 0, .le 0, .co [1, 1, 1]] [(6, .bool false)] (by kernel_rfl) ?_
              refine retR [6] [.bool false] (by kernel_rfl) (by kernel_rfl) (by kernel_rfl) ?_
              have hret := (hfr257 _ (hfin315 _ (Option.some.inj hb_315).symm).symm)
              subst hret
              exact ⟨_, rfl, rfl, H.scalar⟩
            · rw [hb374]
              refine seg 1 [.op [1, 1, 0, 1, 0, 0, 1, 0, 0, 1, 1, 0] 21, .co [1, 1, 0, 1, 0, 0, 1, 0, 0, 1, 1, 1], .bl 1, .co [1, 1, 0, 1, 0, 0, 1, 1], .le 1, .bl 0, .le 0, .co [1, 1, 1]] [(0, .slice A0_0 a.length c0_0), (1, .slice A1_0 b.length c1_0), (2, .bool plain2), (7, .int .i64 (i : Int)), (8, .pointer (some (⟨g_1_327, 0, none⟩))), (9, .pointer (some (⟨g_6_327, 0, none⟩))), (53, .bool false), (54, .pointer (some (⟨g_1_327, 3, none⟩)))] (by kernel_rfl) ?_
              refine st (ldR (some 55) 23 (⟨g_1_327, 3, none⟩) (.slice A_1_353 Bytes2.length c_2_353) (by kernel_rfl) (by kernel_rfl) (H.cellB 0 rfl rfl) ?_)
              refine st (b2sS (some 56) 23 9 5 A_1_353 c_2_353 Bytes2 Tryd.underlying23 Tryd.underlying5 Tryd.underlying9 (by kernel_rfl) (hs353_0.bytes.cs H.has) ?_)
              have hl375 : Bytes2.length ≤ 9223372036854775807 := hs353_0.bound
              refine seg 1 [.op [1, 1, 0, 1, 0, 0, 1, 0, 0, 1, 1, 0] 24, .co [1, 1, 0, 1, 0, 0, 1, 0, 0, 1, 1, 1], .bl 1, .co [1, 1, 0, 1, 0, 0, 1, 1], .le 1, .bl 0, .le 0, .co [1, 1, 1]] [(0, .slice A0_0 a.length c0_0), (1, .slice A1_0 b.length c1_0), (2, .bool plain2), (7, .int .i64 (i : Int)), (8, .pointer (some (⟨g_1_327, 0, none⟩))), (9, .pointer (some (⟨g_6_327, 0, none⟩))), (53, .bool false), (56, .string ⟨Bytes2.toArray⟩), (57, .pointer (some (⟨g_6_327, 3, none⟩)))] (by kernel_rfl) ?_
              refine st (ldR (some 58) 23 (⟨g_6_327, 3, none⟩) (.slice A_5_353 Bytes3.length c_6_353) (by kernel_rfl) (by kernel_rfl) (H.cellB 1 rfl rfl) ?_)
              refine st (b2sS (some 59) 23 9 5 A_5_353 c_6_353 Bytes3 Tryd.underlying23 Tryd.underlying5 Tryd.underlying9 (by kernel_rfl) (hs353_2.bytes.cs H.has) ?_)
              have hl376 : Bytes3.length ≤ 9223372036854775807 := hs353_2.bound
              refine seg 3 [.op [1, 1, 0, 1, 0, 0, 1, 0, 0, 1, 1, 0] 29, .co [1, 1, 0, 1, 0, 0, 1, 0, 0, 1, 1, 1], .bl 1, .co [1, 1, 0, 1, 0, 0, 1, 1], .le 1, .bl 0, .le 0, .co [1, 1, 1]] [(0, .slice A0_0 a.length c0_0), (1, .slice A1_0 b.length c1_0), (2, .bool plain2), (7, .int .i64 (i : Int)), (8, .pointer (some (⟨g_1_327, 0, none⟩))), (9, .pointer (some (⟨g_6_327, 0, none⟩))), (62, .bool (!((ByteArray.toList ⟨Bytes2.toArray⟩) == (ByteArray.toList ⟨Bytes3.toArray⟩))))] (by kernel_rfl) ?_
              rw [sne_raw Bytes2 Bytes3]
              rcases condT hb_315 with ⟨hb377, hb_315⟩ | ⟨hb377, hb_315⟩
              · rw [hb377]
                refine seg 32 [.co [1, 1, 0, 1, 0, 0, 1, 0, 0, 1, 1, 1, 0, 1], .bl 1, .co [1, 1, 0, 1, 0, 0, 1, 1], .le 1, .bl 0, .le 0, .co [1, 1, 1]] [(6, .bool false)] (by kernel_rfl) ?_
                refine retR [6] [.bool false] (by kernel_rfl) (by kernel_rfl) (by kernel_rfl) ?_
                have hret := (hfr257 _ (hfin315 _ (Option.some.inj hb_315).symm).symm)
                subst hret
                exact ⟨_, rfl, rfl, H.scalar⟩
              · rw [hb377]
                refine seg 2 [.op [1, 1, 0, 1, 0, 0, 1, 0, 0, 1, 1, 0] 31, .co [1, 1, 0, 1, 0, 0, 1, 0, 0, 1, 1, 1], .bl 1, .co [1, 1, 0, 1, 0, 0, 1, 1], .le 1, .bl 0, .le 0, .co [1, 1, 1]] [(0, .slice A0_0 a.length c0_0), (1, .slice A1_0 b.length c1_0), (2, .bool plain2), (7, .int .i64 (i : Int)), (8, .pointer (some (⟨g_1_327, 0, none⟩))), (9, .pointer (some (⟨g_6_327, 0, none⟩))), (62, .bool false), (64, .pointer (some (⟨g_1_327, 4, none⟩)))] (by kernel_rfl) ?_
                refine st (ldR (some 65) 3 (⟨g_1_327, 4, none⟩) (.int .i64 After2) (by kernel_rfl) (by kernel_rfl) (H.cellB 0 rfl rfl) ?_)
                refine seg 2 [.op [1, 1, 0, 1, 0, 0, 1, 0, 0, 1, 1, 0] 34, .co [1, 1, 0, 1, 0, 0, 1, 0, 0, 1, 1, 1], .bl 1, .co [1, 1, 0, 1, 0, 0, 1, 1], .le 1, .bl 0, .le 0, .co [1, 1, 1]] [(0, .slice A0_0 a.length c0_0), (1, .slice A1_0 b.length c1_0), (2, .bool plain2), (7, .int .i64 (i : Int)), (8, .pointer (some (⟨g_1_327, 0, none⟩))), (9, .pointer (some (⟨g_6_327, 0, none⟩))), (62, .bool false), (65, .int .i64 After2), (67, .pointer (some (⟨g_6_327, 4, none⟩)))] (by kernel_rfl) ?_
                refine st (ldR (some 68) 3 (⟨g_6_327, 4, none⟩) (.int .i64 After3) (by kernel_rfl) (by kernel_rfl) (H.cellB 1 rfl rfl) ?_)
                refine seg 3 [.op [1, 1, 0, 1, 0, 0, 1, 0, 0, 1, 1, 0] 38, .co [1, 1, 0, 1, 0, 0, 1, 0, 0, 1, 1, 1], .bl 1, .co [1, 1, 0, 1, 0, 0, 1, 1], .le 1, .bl 0, .le 0, .co [1, 1, 1]] [(0, .slice A0_0 a.length c0_0), (1, .slice A1_0 b.length c1_0), (2, .bool plain2), (7, .int .i64 (i : Int)), (8, .pointer (some (⟨g_1_327, 0, none⟩))), (9, .pointer (some (⟨g_6_327, 0, none⟩))), (71, .bool (After2 != After3))] (by kernel_rfl) ?_
                rcases condT hb_315 with ⟨hb378, hb_315⟩ | ⟨hb378, hb_315⟩
                · rw [hb378]
                  refine seg 23 [.co [1, 1, 0, 1, 0, 0, 1, 0, 0, 1, 1, 1, 0, 1], .bl 1, .co [1, 1, 0, 1, 0, 0, 1, 1], .le 1, .bl 0, .le 0, .co [1, 1, 1]] [(6, .bool false)] (by kernel_rfl) ?_
                  refine retR [6] [.bool false] (by kernel_rfl) (by kernel_rfl) (by kernel_rfl) ?_
                  have hret := (hfr257 _ (hfin315 _ (Option.some.inj hb_315).symm).symm)
                  subst hret
                  exact ⟨_, rfl, rfl, H.scalar⟩
                · rw [hb378]
                  refine seg 2 [.op [1, 1, 0, 1, 0, 0, 1, 0, 0, 1, 1, 0] 40, .co [1, 1, 0, 1, 0, 0, 1, 0, 0, 1, 1, 1], .bl 1, .co [1, 1, 0, 1, 0, 0, 1, 1], .le 1, .bl 0, .le 0, .co [1, 1, 1]] [(0, .slice A0_0 a.length c0_0), (1, .slice A1_0 b.length c1_0), (2, .bool plain2), (7, .int .i64 (i : Int)), (8, .pointer (some (⟨g_1_327, 0, none⟩))), (9, .pointer (some (⟨g_6_327, 0, none⟩))), (71, .bool false), (73, .pointer (some (⟨g_1_327, 5, none⟩)))] (by kernel_rfl) ?_
                  refine st (ldR (some 74) 23 (⟨g_1_327, 5, none⟩) (.slice A_3_353 Torn2.length c_4_353) (by kernel_rfl) (by kernel_rfl) (H.cellB 0 rfl rfl) ?_)
                  refine st (b2sS (some 75) 23 9 5 A_3_353 c_4_353 Torn2 Tryd.underlying23 Tryd.underlying5 Tryd.underlying9 (by kernel_rfl) (hs353_1.bytes.cs H.has) ?_)
                  have hl379 : Torn2.length ≤ 9223372036854775807 := hs353_1.bound
                  refine seg 2 [.op [1, 1, 0, 1, 0, 0, 1, 0, 0, 1, 1, 0] 44, .co [1, 1, 0, 1, 0, 0, 1, 0, 0, 1, 1, 1], .bl 1, .co [1, 1, 0, 1, 0, 0, 1, 1], .le 1, .bl 0, .le 0, .co [1, 1, 1]] [(0, .slice A0_0 a.length c0_0), (1, .slice A1_0 b.length c1_0), (2, .bool plain2), (7, .int .i64 (i : Int)), (8, .pointer (some (⟨g_1_327, 0, none⟩))), (9, .pointer (some (⟨g_6_327, 0, none⟩))), (71, .bool false), (75, .string ⟨Torn2.toArray⟩), (77, .pointer (some (⟨g_6_327, 5, none⟩)))] (by kernel_rfl) ?_
                  refine st (ldR (some 78) 23 (⟨g_6_327, 5, none⟩) (.slice A_7_353 Torn3.length c_8_353) (by kernel_rfl) (by kernel_rfl) (H.cellB 1 rfl rfl) ?_)
                  refine st (b2sS (some 79) 23 9 5 A_7_353 c_8_353 Torn3 Tryd.underlying23 Tryd.underlying5 Tryd.underlying9 (by kernel_rfl) (hs353_3.bytes.cs H.has) ?_)
                  have hl380 : Torn3.length ≤ 9223372036854775807 := hs353_3.bound
                  refine seg 3 [.op [1, 1, 0, 1, 0, 0, 1, 0, 0, 1, 1, 0] 49, .co [1, 1, 0, 1, 0, 0, 1, 0, 0, 1, 1, 1], .bl 1, .co [1, 1, 0, 1, 0, 0, 1, 1], .le 1, .bl 0, .le 0, .co [1, 1, 1]] [(0, .slice A0_0 a.length c0_0), (1, .slice A1_0 b.length c1_0), (2, .bool plain2), (7, .int .i64 (i : Int)), (8, .pointer (some (⟨g_1_327, 0, none⟩))), (9, .pointer (some (⟨g_6_327, 0, none⟩))), (82, .bool (!((ByteArray.toList ⟨Torn2.toArray⟩) == (ByteArray.toList ⟨Torn3.toArray⟩))))] (by kernel_rfl) ?_
                  rw [sne_raw Torn2 Torn3]
                  rcases condT hb_315 with ⟨hb381, hb_315⟩ | ⟨hb381, hb_315⟩
                  · rw [hb381]
                    refine seg 12 [.co [1, 1, 0, 1, 0, 0, 1, 0, 0, 1, 1, 1, 0, 1], .bl 1, .co [1, 1, 0, 1, 0, 0, 1, 1], .le 1, .bl 0, .le 0, .co [1, 1, 1]] [(6, .bool false)] (by kernel_rfl) ?_
                    refine retR [6] [.bool false] (by kernel_rfl) (by kernel_rfl) (by kernel_rfl) ?_
                    have hret := (hfr257 _ (hfin315 _ (Option.some.inj hb_315).symm).symm)
                    subst hret
                    exact ⟨_, rfl, rfl, H.scalar⟩
                  · rw [hb381]
                    refine seg 1 [.op [1, 1, 0, 1, 0, 0, 1, 0, 0, 1, 1, 0] 50, .co [1, 1, 0, 1, 0, 0, 1, 0, 0, 1, 1, 1], .bl 1, .co [1, 1, 0, 1, 0, 0, 1, 1], .le 1, .bl 0, .le 0, .co [1, 1, 1]] [(0, .slice A0_0 a.length c0_0), (1, .slice A1_0 b.length c1_0), (2, .bool plain2), (7, .int .i64 (i : Int)), (9, .pointer (some (⟨g_6_327, 0, none⟩))), (82, .bool false), (83, .pointer (some (⟨g_1_327, 6, none⟩)))] (by kernel_rfl) ?_
                    refine st (ldAggR (some 84) 27 (⟨g_1_327, 6, none⟩) [.int .i64 Do5, .int .i64 Ino2, .int .i64 A2, .int .i64 B_2, .string ⟨Name2.toArray⟩, .bool On2] (by kernel_rfl) (by kernel_rfl) (H.cellsB 0 rfl (by rfl)) ?_)
                    refine seg 1 [.op [1, 1, 0, 1, 0, 0, 1, 0, 0, 1, 1, 0] 52, .co [1, 1, 0, 1, 0, 0, 1, 0, 0, 1, 1, 1], .bl 1, .co [1, 1, 0, 1, 0, 0, 1, 1], .le 1, .bl 0, .le 0, .co [1, 1, 1]] [(0, .slice A0_0 a.length c0_0), (1, .slice A1_0 b.length c1_0), (2, .bool plain2), (7, .int .i64 (i : Int)), (82, .bool false), (84, .agg #[.int .i64 Do5, .int .i64 Ino2, .int .i64 A2, .int .i64 B_2, .string ⟨Name2.toArray⟩, .bool On2]), (85, .pointer (some (⟨g_6_327, 6, none⟩)))] (by kernel_rfl) ?_
                    refine st (ldAggR (some 86) 27 (⟨g_6_327, 6, none⟩) [.int .i64 Do7, .int .i64 Ino3, .int .i64 A3, .int .i64 B_3, .string ⟨Name3.toArray⟩, .bool On3] (by kernel_rfl) (by kernel_rfl) (H.cellsB 1 rfl (by rfl)) ?_)
                    refine st (runR (by kernel_rfl : fetch _ _ _ _ _ = some ((some 87), (eqSem .neq 27 (.tmp 84) (.tmp 86) (.agg #[.int .i64 Do5, .int .i64 Ino2, .int .i64 A2, .int .i64 B_2, .string ⟨Name2.toArray⟩, .bool On2]) (.agg #[.int .i64 Do7, .int .i64 Ino3, .int .i64 A3, .int .i64 B_3, .string ⟨Name3.toArray⟩, .bool On3])))) (neAgg_run 27 (.tmp 84) (.tmp 86) _ _ ((Do5 == Do7) && ((Ino2 == Ino3) && ((A2 == A3) && ((B_2 == B_3) && (((ByteArray.toList ⟨Name2.toArray⟩) == (ByteArray.toList ⟨Name3.toArray⟩)) && ((On2 == On3) && true)))))) ((Do5 == Do7) && ((Ino2 == Ino3) && ((A2 == A3) && ((B_2 == B_3) && ((Name2 == Name3) && ((On2 == On3) && true)))))) (by kernel_rfl) (by simp only [seq_raw]) (by kernel_rfl) Tryd.underlying27 (by kernel_rfl)) ?_)
                    refine seg 2 [.co [1, 1, 0, 1, 0, 0, 1, 0, 0, 1, 1, 1], .bl 1, .co [1, 1, 0, 1, 0, 0, 1, 1], .le 1, .bl 0, .le 0, .co [1, 1, 1]] [(0, .slice A0_0 a.length c0_0), (1, .slice A1_0 b.length c1_0), (2, .bool plain2), (7, .int .i64 (i : Int)), (88, .bool (!((Do5 == Do7) && ((Ino2 == Ino3) && ((A2 == A3) && ((B_2 == B_3) && ((Name2 == Name3) && ((On2 == On3) && true))))))))] (by kernel_rfl) ?_
                    rcases condT hb_315 with ⟨hb382, hb_315⟩ | ⟨hb382, hb_315⟩
                    · rw [hb382]
                      refine seg 8 [.le 1, .bl 0, .le 0, .co [1, 1, 1]] [(0, .slice A0_0 a.length c0_0), (1, .slice A1_0 b.length c1_0), (2, .bool plain2), (7, .int .i64 (IntKind.i64.wrap ((i : Int) + 1)))] (by kernel_rfl) ?_
                      have := s0_0.bound
                      rw [show IntKind.i64.wrap ((i : Int) + 1) = ((i : Int) + 1) from w64 (by omega)]
                      refine leR (nk315, plain2, (i + 1), mm353) (Nat.lt_succ_self _) ⟨hnx315 _ (Option.some.inj hb_315).symm, (St.takeN 0 H), ((hsub316.trans hsub327).trans hsub353)⟩ (by kernel_rfl)
                    · rw [hb382]
                      refine seg 5 [.co [1, 1, 0, 1, 0, 0, 1, 0, 0, 1, 1, 1, 0, 1], .bl 1, .co [1, 1, 0, 1, 0, 0, 1, 1], .le 1, .bl 0, .le 0, .co [1, 1, 1]] [(6, .bool false)] (by kernel_rfl) ?_
                      refine retR [6] [.bool false] (by kernel_rfl) (by kernel_rfl) (by kernel_rfl) ?_
                      have hret := (hfr257 _ (hfin315 _ (Option.some.inj hb_315).symm).symm)
                      subst hret
                      exact ⟨_, rfl, rfl, H.scalar⟩
      · rw [hb317]
        have p317 := of_decide_eq_false hb317
        refine seg 2 [.le 0, .co [1, 1, 1]] [] (by kernel_rfl) ?_
        refine leR_up (k' := []) (by rfl) ?_
        refine leJ (mm316) ⟨(hfin315 _ (Option.some.inj hb_315).symm).symm, H, hsub316⟩ (by kernel_rfl)
    rintro mm258 wj257 ⟨hy257, H, hsub258⟩
    have hf := hfl257 _ hy257
    try dsimp only at hf
    refine seg 4 [.co [1, 1, 1, 1]] [(6, .bool true)] (by kernel_rfl) ?_
    refine retR [6] [.bool true] (by kernel_rfl) (by kernel_rfl) (by kernel_rfl) ?_
    have hret := (Option.some.inj hf)
    subst hret
    exact ⟨_, rfl, rfl, H.scalar⟩
theorem law31_ScriptPlains_c {m : Mem} {w : World} (hm : Has m w) (hG1 : TabM m 1 (tab0.map fU64)) (hG3 : TabM m 3 (tab2.map fU8)) (a : TApiAct) (A0_3 : Option Addr) (c0_3 : Nat) (s0_3 : SlI rU8 m A0_3 c0_3 a.Bytes) (A0_5 : Option Addr) (c0_5 : Nat) (s0_5 : SlI rU8 m A0_5 c0_5 a.Crash.Torn) (l0_10 : a.Call.Name.length ≤ 9223372036854775807) {r : Bool} (hf : law31_ScriptPlains a = some r) :
    Calls Tryd.prog 3 #[.agg #[.int .i64 a.Do, .int .i64 a.Len, .int .u64 (a.Sum.toNat : Int), .slice A0_3 a.Bytes.length c0_3, .int .i64 a.Crash.After, .slice A0_5 a.Crash.Torn.length c0_5, .int .i64 a.Call.Do, .int .i64 a.Call.Ino, .int .i64 a.Call.A, .int .i64 a.Call.B, .string ⟨a.Call.Name.toArray⟩, .bool a.Call.On]] w fun e w' => ∃ v, e = .returned v ∧ v = .bool r ∧ Ex w w' := by
  unfold law31_ScriptPlains at hf
  have H := St.start0 hm
  refine callsR Tryd.func3 (by kernel_rfl) (by kernel_rfl) ?_
  refine seg 2 [.op [0] 0, .co [1]] [(0, .agg #[.int .i64 a.Do, .int .i64 a.Len, .int .u64 (a.Sum.toNat : Int), .slice A0_3 a.Bytes.length c0_3, .int .i64 a.Crash.After, .slice A0_5 a.Crash.Torn.length c0_5, .int .i64 a.Call.Do, .int .i64 a.Call.Ino, .int .i64 a.Call.A, .int .i64 a.Call.B, .string ⟨a.Call.Name.toArray⟩, .bool a.Call.On])] (by kernel_rfl) ?_
  refine st (newS (some 1) (fun g => .pointer (some ⟨g, 0, none⟩)) [.int .i64 a.Do, .int .i64 a.Len, .int .u64 (a.Sum.toNat : Int), .slice A0_3 a.Bytes.length c0_3, .int .i64 a.Crash.After, .slice A0_5 a.Crash.Torn.length c0_5, .int .i64 a.Call.Do, .int .i64 a.Call.Ino, .int .i64 a.Call.A, .int .i64 a.Call.B, .string ⟨a.Call.Name.toArray⟩, .bool a.Call.On] 29 H (by kernel_rfl) ?_)
  intro g1 w1 H
  refine seg 5 [.op [1, 0, 0] 0, .co [1, 0, 1], .co [1, 1]] [(1, .pointer (some (⟨g1, 0, none⟩)))] (by kernel_rfl) ?_
  refine st (ldAggR (some 4) 29 (⟨g1, 0, none⟩) [.int .i64 a.Do, .int .i64 a.Len, .int .u64 (a.Sum.toNat : Int), .slice A0_3 a.Bytes.length c0_3, .int .i64 a.Crash.After, .slice A0_5 a.Crash.Torn.length c0_5, .int .i64 a.Call.Do, .int .i64 a.Call.Ino, .int .i64 a.Call.A, .int .i64 a.Call.B, .string ⟨a.Call.Name.toArray⟩, .bool a.Call.On] (by kernel_rfl) (by kernel_rfl) (H.cellsB 0 rfl (by rfl)) ?_)
  refine st (newS (some 5) (fun g => .slice (some ⟨g, 0, none⟩) 1 1) [.int .i64 a.Do, .int .i64 a.Len, .int .u64 (a.Sum.toNat : Int), .slice A0_3 a.Bytes.length c0_3, .int .i64 a.Crash.After, .slice A0_5 a.Crash.Torn.length c0_5, .int .i64 a.Call.Do, .int .i64 a.Call.Ino, .int .i64 a.Call.A, .int .i64 a.Call.B, .string ⟨a.Call.Name.toArray⟩, .bool a.Call.On] 29 H (by kernel_rfl) ?_)
  intro g2 w2 H
  have H := H.toRow (r := rApiAct) (l := [a]) 0 rfl (Rows.cons (cs := [.int .i64 a.Do, .int .i64 a.Len, .int .u64 (a.Sum.toNat : Int), .slice A0_3 a.Bytes.length c0_3, .int .i64 a.Crash.After, .slice A0_5 a.Crash.Torn.length c0_5, .int .i64 a.Call.Do, .int .i64 a.Call.Ino, .int .i64 a.Call.A, .int .i64 a.Call.B, .string ⟨a.Call.Name.toArray⟩, .bool a.Call.On]) ⟨A0_3, c0_3, A0_5, c0_5, rfl, s0_3, s0_5, l0_10⟩ Rows.nil) (Nat.le_of_ble_eq_true rfl)
  have H0_3 := H
  obtain ⟨mf4, hsub4, hsf4, H⟩ := H.fixR 0 rfl
  obtain ⟨much, h_much, hf⟩ := bindE hf
  refine st (callR (some 6) 6 #[.slice (some ⟨g2, 0, none⟩) 1 1] Tryd.call6 (ref31_Much_c H.has [a] (some ⟨g2, 0, none⟩) 1 hsf4 h_much) (by kernel_rfl) ?_)
  rintro _ w5 ⟨rfl, hx5⟩
  replace H := H0_3.ex hx5
  refine seg 1 [.co [1, 0, 1], .co [1, 1]] [(1, .pointer (some (⟨g1, 0, none⟩))), (6, .bool much)] (by kernel_rfl) ?_
  rcases condT hf with ⟨hb9, hf⟩ | ⟨hb9, hf⟩
  · rw [hb9]
    refine seg 3 [.op [1, 0, 1, 0, 0] 0, .co [1, 0, 1, 0, 1], .co [1, 1]] [] (by kernel_rfl) ?_
    replace H : St w noF m m [] w5 := ((H.drop 1 rfl).drop 0 rfl)
    obtain ⟨live, h_live, hf⟩ := bindE hf
    refine st (callR (some 7) 7 #[] Tryd.call7 (law31_live_c H.has hG1 hG3 h_live) (by kernel_rfl) ?_)
    rintro _ w10 ⟨rfl, hx10⟩
    replace H := H.ex hx10
    refine seg 2 [.co [1, 0, 1, 0, 1], .co [1, 1]] [(2, .bool live)] (by kernel_rfl) ?_
    refine retR [2] [.bool live] (by kernel_rfl) (by kernel_rfl) (by kernel_rfl) ?_
    have hret := (Option.some.inj hf)
    subst hret
    exact ⟨_, rfl, rfl, H.scalar⟩
  · rw [hb9]
    refine seg 4 [.op [1, 1, 0] 0, .co [1, 1, 1]] [(1, .pointer (some (⟨g1, 0, none⟩)))] (by kernel_rfl) ?_
    refine st (ldAggR (some 8) 29 (⟨g1, 0, none⟩) [.int .i64 a.Do, .int .i64 a.Len, .int .u64 (a.Sum.toNat : Int), .slice A0_3 a.Bytes.length c0_3, .int .i64 a.Crash.After, .slice A0_5 a.Crash.Torn.length c0_5, .int .i64 a.Call.Do, .int .i64 a.Call.Ino, .int .i64 a.Call.A, .int .i64 a.Call.B, .string ⟨a.Call.Name.toArray⟩, .bool a.Call.On] (by kernel_rfl) (by kernel_rfl) (H.cellsB 1 rfl (by rfl)) ?_)
    obtain ⟨plain, h_plain, hf⟩ := bindE hf
    refine st (callR (some 9) 8 #[.agg #[.int .i64 a.Do, .int .i64 a.Len, .int .u64 (a.Sum.toNat : Int), .slice A0_3 a.Bytes.length c0_3, .int .i64 a.Crash.After, .slice A0_5 a.Crash.Torn.length c0_5, .int .i64 a.Call.Do, .int .i64 a.Call.Ino, .int .i64 a.Call.A, .int .i64 a.Call.B, .string ⟨a.Call.Name.toArray⟩, .bool a.Call.On]] Tryd.call8 (script_Plain_c H.has a A0_3 c0_3 s0_3 A0_5 c0_5 s0_5 l0_10 h_plain) (by kernel_rfl) ?_)
    rintro _ w11 ⟨A11_0_3, c11_0_3, A11_0_5, c11_0_5, mk11, rfl, hS11, hs11_0, hs11_1, hl11_0⟩
    have hsub11 := hS11.sub
    replace H := H.call0 hS11
    refine st (newS (some 3) (fun g => .pointer (some ⟨g, 0, none⟩)) [.int .i64 0, .int .i64 0, .int .u64 0, .slice none 0 0, .int .i64 0, .slice none 0 0, .int .i64 0, .int .i64 0, .int .i64 0, .int .i64 0, .string ⟨([] : List UInt8).toArray⟩, .bool false] 29 H (by kernel_rfl) ?_)
    intro g12 w12 H
    refine st (stAggS none 29 0 g12 0 [.int .i64 plain.Do, .int .i64 plain.Len, .int .u64 (plain.Sum.toNat : Int), .slice A11_0_3 plain.Bytes.length c11_0_3, .int .i64 plain.Crash.After, .slice A11_0_5 plain.Crash.Torn.length c11_0_5, .int .i64 plain.Call.Do, .int .i64 plain.Call.Ino, .int .i64 plain.Call.A, .int .i64 plain.Call.B, .string ⟨plain.Call.Name.toArray⟩, .bool plain.Call.On] [.int .i64 0, .int .i64 0, .int .u64 0, .slice none 0 0, .int .i64 0, .slice none 0 0, .int .i64 0, .int .i64 0, .int .i64 0, .int .i64 0, .string ⟨([] : List UInt8).toArray⟩, .bool false] [.int .i64 plain.Do, .int .i64 plain.Len, .int .u64 (plain.Sum.toNat : Int), .slice A11_0_3 plain.Bytes.length c11_0_3, .int .i64 plain.Crash.After, .slice A11_0_5 plain.Crash.Torn.length c11_0_5, .int .i64 plain.Call.Do, .int .i64 plain.Call.Ino, .int .i64 plain.Call.A, .int .i64 plain.Call.B, .string ⟨plain.Call.Name.toArray⟩, .bool plain.Call.On] 29 H rfl (by kernel_rfl) (by kernel_rfl) (by rfl) (of_decide_eq_true rfl) rfl ?_)
    intro w13 H
    refine seg 2 [.co [1, 1, 1, 0], .co [1, 1, 1, 1]] [(1, .pointer (some (⟨g1, 0, none⟩))), (3, .pointer (some (⟨g12, 0, none⟩)))] (by kernel_rfl) ?_
    obtain ⟨y55, hp55, hf⟩ := bindE hf
    refine joinR 0 (fun (x : Bool × Mem) => [(2, .bool x.1)]) (fun (x : Bool × Mem) (wj55 : World) => y55 = x.1 ∧ St w noF m x.2 [] wj55 ∧ Sub mk11 x.2) (by kernel_rfl) ?_ ?_
    · obtain ⟨check, h_check, hp55⟩ := bindE hp55
      obtain ⟨check1, h_check1, hp55⟩ := bindE hp55
      rcases condT hp55 with ⟨hb60, hp55⟩ | ⟨hb60, hp55⟩
      · obtain ⟨plain1, h_plain1, hp55⟩ := bindE hp55
        obtain ⟨same, h_same, hp55⟩ := bindE hp55
        rcases condT hp55 with ⟨hb72, hp55⟩ | ⟨hb72, hp55⟩
        · obtain ⟨live1, h_live1, hp55⟩ := bindE hp55
          have hst : statB (bodyOf Tryd.f3) [1, 1, 1, 0] = true := by kernel_rfl
          refine drawS (fun w' => Has mk11 w' ∧ w'.heap[g12]? = some (.cells [.int .i64 plain.Do, .int .i64 plain.Len, .int .u64 (plain.Sum.toNat : Int), .slice A11_0_3 plain.Bytes.length c11_0_3, .int .i64 plain.Crash.After, .slice A11_0_5 plain.Crash.Torn.length c11_0_5, .int .i64 plain.Call.Do, .int .i64 plain.Call.Ino, .int .i64 plain.Call.A, .int .i64 plain.Call.B, .string ⟨plain.Call.Name.toArray⟩, .bool plain.Call.On].toArray 29 (0, 0)) ∧ w'.heap[g1]? = some (.cells [.int .i64 a.Do, .int .i64 a.Len, .int .u64 (a.Sum.toNat : Int), .slice A0_3 a.Bytes.length c0_3, .int .i64 a.Crash.After, .slice A0_5 a.Crash.Torn.length c0_5, .int .i64 a.Call.Do, .int .i64 a.Call.Ino, .int .i64 a.Call.A, .int .i64 a.Call.B, .string ⟨a.Call.Name.toArray⟩, .bool a.Call.On].toArray 29 (0, 0))) H (by kernel_rfl) (by kernel_rfl) ?_
          intro w84 H
          refine takeD2 (i := 0) (d := (some 10)) (s := vS (Instr.loadAt 29 (.pointer (some (⟨g1, 0, none⟩))))) (v := (.agg #[.int .i64 a.Do, .int .i64 a.Len, .int .u64 (a.Sum.toNat : Int), .slice A0_3 a.Bytes.length c0_3, .int .i64 a.Crash.After, .slice A0_5 a.Crash.Torn.length c0_5, .int .i64 a.Call.Do, .int .i64 a.Call.Ino, .int .i64 a.Call.A, .int .i64 a.Call.B, .string ⟨a.Call.Name.toArray⟩, .bool a.Call.On])) hst (by kernel_rfl) (by kernel_rfl) (fun w' hw' => aggRun _ _ [.int .i64 a.Do, .int .i64 a.Len, .int .u64 (a.Sum.toNat : Int), .slice A0_3 a.Bytes.length c0_3, .int .i64 a.Crash.After, .slice A0_5 a.Crash.Torn.length c0_5, .int .i64 a.Call.Do, .int .i64 a.Call.Ino, .int .i64 a.Call.A, .int .i64 a.Call.B, .string ⟨a.Call.Name.toArray⟩, .bool a.Call.On] (by kernel_rfl) (blk_cells hw'.2.2 (by rfl))) ?_
          refine takeD2 (i := 3) (d := (some 13)) (s := vS (Instr.loadAt 29 (.pointer (some (⟨g1, 0, none⟩))))) (v := (.agg #[.int .i64 a.Do, .int .i64 a.Len, .int .u64 (a.Sum.toNat : Int), .slice A0_3 a.Bytes.length c0_3, .int .i64 a.Crash.After, .slice A0_5 a.Crash.Torn.length c0_5, .int .i64 a.Call.Do, .int .i64 a.Call.Ino, .int .i64 a.Call.A, .int .i64 a.Call.B, .string ⟨a.Call.Name.toArray⟩, .bool a.Call.On])) hst (by kernel_rfl) (by kernel_rfl) (fun w' hw' => aggRun _ _ [.int .i64 a.Do, .int .i64 a.Len, .int .u64 (a.Sum.toNat : Int), .slice A0_3 a.Bytes.length c0_3, .int .i64 a.Crash.After, .slice A0_5 a.Crash.Torn.length c0_5, .int .i64 a.Call.Do, .int .i64 a.Call.Ino, .int .i64 a.Call.A, .int .i64 a.Call.B, .string ⟨a.Call.Name.toArray⟩, .bool a.Call.On] (by kernel_rfl) (blk_cells hw'.2.2 (by rfl))) ?_
          replace H : St w noF m mk11 [blkI g12 [.int .i64 plain.Do, .int .i64 plain.Len, .int .u64 (plain.Sum.toNat : Int), .slice A11_0_3 plain.Bytes.length c11_0_3, .int .i64 plain.Crash.After, .slice A11_0_5 plain.Crash.Torn.length c11_0_5, .int .i64 plain.Call.Do, .int .i64 plain.Call.Ino, .int .i64 plain.Call.A, .int .i64 plain.Call.B, .string ⟨plain.Call.Name.toArray⟩, .bool plain.Call.On] 29, blkI g1 [.int .i64 a.Do, .int .i64 a.Len, .int .u64 (a.Sum.toNat : Int), .slice A0_3 a.Bytes.length c0_3, .int .i64 a.Crash.After, .slice A0_5 a.Crash.Torn.length c0_5, .int .i64 a.Call.Do, .int .i64 a.Call.Ino, .int .i64 a.Call.A, .int .i64 a.Call.B, .string ⟨a.Call.Name.toArray⟩, .bool a.Call.On] 29] w84 := (H.drop 1 rfl)
          refine stD2 (i := 1) (by kernel_rfl) ⟨H.has, H.blk 0 rfl, H.blk 1 rfl⟩ (callR (some 11) 10 #[.agg #[.int .i64 a.Do, .int .i64 a.Len, .int .u64 (a.Sum.toNat : Int), .slice A0_3 a.Bytes.length c0_3, .int .i64 a.Crash.After, .slice A0_5 a.Crash.Torn.length c0_5, .int .i64 a.Call.Do, .int .i64 a.Call.Ino, .int .i64 a.Call.A, .int .i64 a.Call.B, .string ⟨a.Call.Name.toArray⟩, .bool a.Call.On]] Tryd.call10 (script_Check_c H.has a A0_3 c0_3 (s0_3.mono hsub11) A0_5 c0_5 (s0_5.mono hsub11) l0_10 h_check) (by kernel_rfl) ?_)
          rintro _ w85 ⟨rfl, hx85⟩
          replace H := H.ex hx85
          refine stD2 (i := 2) (by kernel_rfl) ⟨H.has, H.blk 0 rfl, H.blk 1 rfl⟩ (callR (some 12) 9 #[.int .i64 check] Tryd.call9 (law31_num_c H.has check) (by kernel_rfl) ?_)
          rintro _ w86 ⟨rfl, hx86⟩
          replace H := H.ex hx86
          refine stD2 (i := 4) (by kernel_rfl) ⟨H.has, H.blk 0 rfl, H.blk 1 rfl⟩ (callR (some 14) 11 #[.agg #[.int .i64 a.Do, .int .i64 a.Len, .int .u64 (a.Sum.toNat : Int), .slice A0_3 a.Bytes.length c0_3, .int .i64 a.Crash.After, .slice A0_5 a.Crash.Torn.length c0_5, .int .i64 a.Call.Do, .int .i64 a.Call.Ino, .int .i64 a.Call.A, .int .i64 a.Call.B, .string ⟨a.Call.Name.toArray⟩, .bool a.Call.On]] Tryd.call11 (ref31_Check_c H.has a A0_3 c0_3 (s0_3.mono hsub11) A0_5 c0_5 (s0_5.mono hsub11) l0_10 h_check1) (by kernel_rfl) ?_)
          rintro _ w87 ⟨rfl, hx87⟩
          replace H := H.ex hx87
          refine segD2 hst [5] [0, 3, 1, 2, 4, 5] [(1, .pointer (some (⟨g1, 0, none⟩))), (3, .pointer (some (⟨g12, 0, none⟩))), (15, .bool ((law31_num check) == check1))] (by kernel_rfl) ?_
          rw [show ((law31_num check) == check1) = true from hb60]
          refine segD2 hst [6] [0, 3, 1, 2, 4, 5, 6] [(1, .pointer (some (⟨g1, 0, none⟩))), (3, .pointer (some (⟨g12, 0, none⟩))), (16, .bool true)] (by kernel_rfl) ?_
          refine takeD2 (i := 7) (d := (some 17)) (s := vS (Instr.loadAt 29 (.pointer (some (⟨g12, 0, none⟩))))) (v := (.agg #[.int .i64 plain.Do, .int .i64 plain.Len, .int .u64 (plain.Sum.toNat : Int), .slice A11_0_3 plain.Bytes.length c11_0_3, .int .i64 plain.Crash.After, .slice A11_0_5 plain.Crash.Torn.length c11_0_5, .int .i64 plain.Call.Do, .int .i64 plain.Call.Ino, .int .i64 plain.Call.A, .int .i64 plain.Call.B, .string ⟨plain.Call.Name.toArray⟩, .bool plain.Call.On])) hst (by kernel_rfl) (by kernel_rfl) (fun w' hw' => aggRun _ _ [.int .i64 plain.Do, .int .i64 plain.Len, .int .u64 (plain.Sum.toNat : Int), .slice A11_0_3 plain.Bytes.length c11_0_3, .int .i64 plain.Crash.After, .slice A11_0_5 plain.Crash.Torn.length c11_0_5, .int .i64 plain.Call.Do, .int .i64 plain.Call.Ino, .int .i64 plain.Call.A, .int .i64 plain.Call.B, .string ⟨plain.Call.Name.toArray⟩, .bool plain.Call.On] (by kernel_rfl) (blk_cells hw'.2.1 (by rfl))) ?_
          refine takeD2 (i := 9) (d := (some 19)) (s := vS (Instr.loadAt 29 (.pointer (some (⟨g1, 0, none⟩))))) (v := (.agg #[.int .i64 a.Do, .int .i64 a.Len, .int .u64 (a.Sum.toNat : Int), .slice A0_3 a.Bytes.length c0_3, .int .i64 a.Crash.After, .slice A0_5 a.Crash.Torn.length c0_5, .int .i64 a.Call.Do, .int .i64 a.Call.Ino, .int .i64 a.Call.A, .int .i64 a.Call.B, .string ⟨a.Call.Name.toArray⟩, .bool a.Call.On])) hst (by kernel_rfl) (by kernel_rfl) (fun w' hw' => aggRun _ _ [.int .i64 a.Do, .int .i64 a.Len, .int .u64 (a.Sum.toNat : Int), .slice A0_3 a.Bytes.length c0_3, .int .i64 a.Crash.After, .slice A0_5 a.Crash.Torn.length c0_5, .int .i64 a.Call.Do, .int .i64 a.Call.Ino, .int .i64 a.Call.A, .int .i64 a.Call.B, .string ⟨a.Call.Name.toArray⟩, .bool a.Call.On] (by kernel_rfl) (blk_cells hw'.2.2 (by rfl))) ?_
          refine allD2 [8, 10] (by kernel_rfl) ⟨H.has, H.blk 0 rfl, H.blk 1 rfl⟩ ⟨?_, ?_, trivial⟩
          · refine (newS (some 18) (fun g => .slice (some ⟨g, 0, none⟩) 1 1) [.int .i64 plain.Do, .int .i64 plain.Len, .int .u64 (plain.Sum.toNat : Int), .slice A11_0_3 plain.Bytes.length c11_0_3, .int .i64 plain.Crash.After, .slice A11_0_5 plain.Crash.Torn.length c11_0_5, .int .i64 plain.Call.Do, .int .i64 plain.Call.Ino, .int .i64 plain.Call.A, .int .i64 plain.Call.B, .string ⟨plain.Call.Name.toArray⟩, .bool plain.Call.On] 29 H (by kernel_rfl) ?_)
            intro g88 w88 H
            replace H : St w noF m mk11 [blkI g88 [.int .i64 plain.Do, .int .i64 plain.Len, .int .u64 (plain.Sum.toNat : Int), .slice A11_0_3 plain.Bytes.length c11_0_3, .int .i64 plain.Crash.After, .slice A11_0_5 plain.Crash.Torn.length c11_0_5, .int .i64 plain.Call.Do, .int .i64 plain.Call.Ino, .int .i64 plain.Call.A, .int .i64 plain.Call.B, .string ⟨plain.Call.Name.toArray⟩, .bool plain.Call.On] 29, blkI g12 [.int .i64 plain.Do, .int .i64 plain.Len, .int .u64 (plain.Sum.toNat : Int), .slice A11_0_3 plain.Bytes.length c11_0_3, .int .i64 plain.Crash.After, .slice A11_0_5 plain.Crash.Torn.length c11_0_5, .int .i64 plain.Call.Do, .int .i64 plain.Call.Ino, .int .i64 plain.Call.A, .int .i64 plain.Call.B, .string ⟨plain.Call.Name.toArray⟩, .bool plain.Call.On] 29, blkI g1 [.int .i64 a.Do, .int .i64 a.Len, .int .u64 (a.Sum.toNat : Int), .slice A0_3 a.Bytes.length c0_3, .int .i64 a.Crash.After, .slice A0_5 a.Crash.Torn.length c0_5, .int .i64 a.Call.Do, .int .i64 a.Call.Ino, .int .i64 a.Call.A, .int .i64 a.Call.B, .string ⟨a.Call.Name.toArray⟩, .bool a.Call.On] 29] w88 := H
            refine stD2 (i := 10) (by kernel_rfl) ⟨H.has, H.blk 1 rfl, H.blk 2 rfl⟩ (callR (some 20) 13 #[.agg #[.int .i64 a.Do, .int .i64 a.Len, .int .u64 (a.Sum.toNat : Int), .slice A0_3 a.Bytes.length c0_3, .int .i64 a.Crash.After, .slice A0_5 a.Crash.Torn.length c0_5, .int .i64 a.Call.Do, .int .i64 a.Call.Ino, .int .i64 a.Call.A, .int .i64 a.Call.B, .string ⟨a.Call.Name.toArray⟩, .bool a.Call.On]] Tryd.call13 (ref31_Plain_c H.has a A0_3 c0_3 (s0_3.mono hsub11) A0_5 c0_5 (s0_5.mono hsub11) l0_10 h_plain1) (by kernel_rfl) ?_)
            rintro _ w89 ⟨A89_0_3, c89_0_3, A89_0_5, c89_0_5, mk89, rfl, hS89, hs89_0, hs89_1, hl89_0⟩
            have hsub89 := hS89.sub
            replace H := H.call0 hS89
            refine stD2 (i := 11) (by kernel_rfl) ⟨(H.has.sub hsub89), H.blk 1 rfl, H.blk 2 rfl⟩ (newS (some 21) (fun g => .slice (some ⟨g, 0, none⟩) 1 1) [.int .i64 plain1.Do, .int .i64 plain1.Len, .int .u64 (plain1.Sum.toNat : Int), .slice A89_0_3 plain1.Bytes.length c89_0_3, .int .i64 plain1.Crash.After, .slice A89_0_5 plain1.Crash.Torn.length c89_0_5, .int .i64 plain1.Call.Do, .int .i64 plain1.Call.Ino, .int .i64 plain1.Call.A, .int .i64 plain1.Call.B, .string ⟨plain1.Call.Name.toArray⟩, .bool plain1.Call.On] 29 H (by kernel_rfl) ?_)
            intro g90 w90 H
            have H := H.toRow (r := rApiAct) (l := [plain]) 1 rfl (Rows.cons (cs := [.int .i64 plain.Do, .int .i64 plain.Len, .int .u64 (plain.Sum.toNat : Int), .slice A11_0_3 plain.Bytes.length c11_0_3, .int .i64 plain.Crash.After, .slice A11_0_5 plain.Crash.Torn.length c11_0_5, .int .i64 plain.Call.Do, .int .i64 plain.Call.Ino, .int .i64 plain.Call.A, .int .i64 plain.Call.B, .string ⟨plain.Call.Name.toArray⟩, .bool plain.Call.On]) ⟨A11_0_3, c11_0_3, A11_0_5, c11_0_5, rfl, (hs11_0.mono hsub89), (hs11_1.mono hsub89), hl11_0⟩ Rows.nil) (Nat.le_of_ble_eq_true rfl)
            have H := H.toRow (r := rApiAct) (l := [plain1]) 0 rfl (Rows.cons (cs := [.int .i64 plain1.Do, .int .i64 plain1.Len, .int .u64 (plain1.Sum.toNat : Int), .slice A89_0_3 plain1.Bytes.length c89_0_3, .int .i64 plain1.Crash.After, .slice A89_0_5 plain1.Crash.Torn.length c89_0_5, .int .i64 plain1.Call.Do, .int .i64 plain1.Call.Ino, .int .i64 plain1.Call.A, .int .i64 plain1.Call.B, .string ⟨plain1.Call.Name.toArray⟩, .bool plain1.Call.On]) ⟨A89_0_3, c89_0_3, A89_0_5, c89_0_5, rfl, hs89_0, hs89_1, hl89_0⟩ Rows.nil) (Nat.le_of_ble_eq_true rfl)
            have H0_91 := H
            obtain ⟨mf92, hsub92, hsf92, H⟩ := H.fixR 1 rfl
            obtain ⟨mf93, hsub93, hsf93, H⟩ := H.fixR 0 rfl
            refine stD2 (i := 12) (by kernel_rfl) ⟨(H.has.sub ((hsub89.trans hsub92).trans hsub93)), H.blk 0 rfl, H.blk 1 rfl⟩ (callR (some 22) 12 #[.slice (some ⟨g88, 0, none⟩) 1 1, .slice (some ⟨g90, 0, none⟩) 1 1, .bool false] Tryd.call12 (ref31_Same_c H.has [plain] (some ⟨g88, 0, none⟩) 1 (hsf92.mono hsub93) [plain1] (some ⟨g90, 0, none⟩) 1 hsf93 false h_same) (by kernel_rfl) ?_)
            rintro _ w94 ⟨rfl, hx94⟩
            replace H := H0_91.ex hx94
            refine segD2 hst [13] [0, 3, 1, 2, 4, 5, 6, 7, 9, 8, 10, 11, 12, 13] [(23, .bool same)] (by kernel_rfl) ?_
            rw [show same = true from hb72]
            refine segD2 hst [14] [0, 3, 1, 2, 4, 5, 6, 7, 9, 8, 10, 11, 12, 13, 14] [(24, .bool true)] (by kernel_rfl) ?_
            refine stD2 (i := 15) (by kernel_rfl) ⟨(H.has.sub hsub89), H.blk 2 rfl, H.blk 3 rfl⟩ (callR (some 25) 7 #[] Tryd.call7 (law31_live_c H.has (hG1.mono (hsub11.trans hsub89)) (hG3.mono (hsub11.trans hsub89)) h_live1) (by kernel_rfl) ?_)
            rintro _ w95 ⟨rfl, hx95⟩
            replace H := H.ex hx95
            refine segD2 hst [16] [0, 3, 1, 2, 4, 5, 6, 7, 9, 8, 10, 11, 12, 13, 14, 15, 16] [(26, .bool live1)] (by kernel_rfl) ?_
            refine segD2 hst [17] [0, 3, 1, 2, 4, 5, 6, 7, 9, 8, 10, 11, 12, 13, 14, 15, 16, 17] [(2, .bool live1)] (by kernel_rfl) ?_
            refine endD2 (by kernel_rfl) ⟨(H.has.sub hsub89), H.blk 2 rfl, H.blk 3 rfl⟩ ?_
            refine leJ (live1, mk89) ⟨(Option.some.inj hp55).symm, (St.takeN 0 H), hsub89⟩ (by kernel_rfl)
          · replace H : St w noF m mk11 [blkI g12 [.int .i64 plain.Do, .int .i64 plain.Len, .int .u64 (plain.Sum.toNat : Int), .slice A11_0_3 plain.Bytes.length c11_0_3, .int .i64 plain.Crash.After, .slice A11_0_5 plain.Crash.Torn.length c11_0_5, .int .i64 plain.Call.Do, .int .i64 plain.Call.Ino, .int .i64 plain.Call.A, .int .i64 plain.Call.B, .string ⟨plain.Call.Name.toArray⟩, .bool plain.Call.On] 29, blkI g1 [.int .i64 a.Do, .int .i64 a.Len, .int .u64 (a.Sum.toNat : Int), .slice A0_3 a.Bytes.length c0_3, .int .i64 a.Crash.After, .slice A0_5 a.Crash.Torn.length c0_5, .int .i64 a.Call.Do, .int .i64 a.Call.Ino, .int .i64 a.Call.A, .int .i64 a.Call.B, .string ⟨a.Call.Name.toArray⟩, .bool a.Call.On] 29] w87 := H
            refine (callR (some 20) 13 #[.agg #[.int .i64 a.Do, .int .i64 a.Len, .int .u64 (a.Sum.toNat : Int), .slice A0_3 a.Bytes.length c0_3, .int .i64 a.Crash.After, .slice A0_5 a.Crash.Torn.length c0_5, .int .i64 a.Call.Do, .int .i64 a.Call.Ino, .int .i64 a.Call.A, .int .i64 a.Call.B, .string ⟨a.Call.Name.toArray⟩, .bool a.Call.On]] Tryd.call13 (ref31_Plain_c H.has a A0_3 c0_3 (s0_3.mono hsub11) A0_5 c0_5 (s0_5.mono hsub11) l0_10 h_plain1) (by kernel_rfl) ?_)
            rintro _ w96 ⟨A96_0_3, c96_0_3, A96_0_5, c96_0_5, mk96, rfl, hS96, hs96_0, hs96_1, hl96_0⟩
            have hsub96 := hS96.sub
            replace H := H.call0 hS96
            refine allD2 [8, 11] (by kernel_rfl) ⟨(H.has.sub hsub96), H.blk 0 rfl, H.blk 1 rfl⟩ ⟨?_, ?_, trivial⟩
            · refine (newS (some 18) (fun g => .slice (some ⟨g, 0, none⟩) 1 1) [.int .i64 plain.Do, .int .i64 plain.Len, .int .u64 (plain.Sum.toNat : Int), .slice A11_0_3 plain.Bytes.length c11_0_3, .int .i64 plain.Crash.After, .slice A11_0_5 plain.Crash.Torn.length c11_0_5, .int .i64 plain.Call.Do, .int .i64 plain.Call.Ino, .int .i64 plain.Call.A, .int .i64 plain.Call.B, .string ⟨plain.Call.Name.toArray⟩, .bool plain.Call.On] 29 H (by kernel_rfl) ?_)
              intro g97 w97 H
              refine stD2 (i := 11) (by kernel_rfl) ⟨(H.has.sub hsub96), H.blk 1 rfl, H.blk 2 rfl⟩ (newS (some 21) (fun g => .slice (some ⟨g, 0, none⟩) 1 1) [.int .i64 plain1.Do, .int .i64 plain1.Len, .int .u64 (plain1.Sum.toNat : Int), .slice A96_0_3 plain1.Bytes.length c96_0_3, .int .i64 plain1.Crash.After, .slice A96_0_5 plain1.Crash.Torn.length c96_0_5, .int .i64 plain1.Call.Do, .int .i64 plain1.Call.Ino, .int .i64 plain1.Call.A, .int .i64 plain1.Call.B, .string ⟨plain1.Call.Name.toArray⟩, .bool plain1.Call.On] 29 H (by kernel_rfl) ?_)
              intro g98 w98 H
              have H := H.toRow (r := rApiAct) (l := [plain]) 1 rfl (Rows.cons (cs := [.int .i64 plain.Do, .int .i64 plain.Len, .int .u64 (plain.Sum.toNat : Int), .slice A11_0_3 plain.Bytes.length c11_0_3, .int .i64 plain.Crash.After, .slice A11_0_5 plain.Crash.Torn.length c11_0_5, .int .i64 plain.Call.Do, .int .i64 plain.Call.Ino, .int .i64 plain.Call.A, .int .i64 plain.Call.B, .string ⟨plain.Call.Name.toArray⟩, .bool plain.Call.On]) ⟨A11_0_3, c11_0_3, A11_0_5, c11_0_5, rfl, (hs11_0.mono hsub96), (hs11_1.mono hsub96), hl11_0⟩ Rows.nil) (Nat.le_of_ble_eq_true rfl)
              have H := H.toRow (r := rApiAct) (l := [plain1]) 0 rfl (Rows.cons (cs := [.int .i64 plain1.Do, .int .i64 plain1.Len, .int .u64 (plain1.Sum.toNat : Int), .slice A96_0_3 plain1.Bytes.length c96_0_3, .int .i64 plain1.Crash.After, .slice A96_0_5 plain1.Crash.Torn.length c96_0_5, .int .i64 plain1.Call.Do, .int .i64 plain1.Call.Ino, .int .i64 plain1.Call.A, .int .i64 plain1.Call.B, .string ⟨plain1.Call.Name.toArray⟩, .bool plain1.Call.On]) ⟨A96_0_3, c96_0_3, A96_0_5, c96_0_5, rfl, hs96_0, hs96_1, hl96_0⟩ Rows.nil) (Nat.le_of_ble_eq_true rfl)
              have H0_99 := H
              obtain ⟨mf100, hsub100, hsf100, H⟩ := H.fixR 1 rfl
              obtain ⟨mf101, hsub101, hsf101, H⟩ := H.fixR 0 rfl
              refine stD2 (i := 12) (by kernel_rfl) ⟨(H.has.sub ((hsub96.trans hsub100).trans hsub101)), H.blk 0 rfl, H.blk 1 rfl⟩ (callR (some 22) 12 #[.slice (some ⟨g97, 0, none⟩) 1 1, .slice (some ⟨g98, 0, none⟩) 1 1, .bool false] Tryd.call12 (ref31_Same_c H.has [plain] (some ⟨g97, 0, none⟩) 1 (hsf100.mono hsub101) [plain1] (some ⟨g98, 0, none⟩) 1 hsf101 false h_same) (by kernel_rfl) ?_)
              rintro _ w102 ⟨rfl, hx102⟩
              replace H := H0_99.ex hx102
              refine segD2 hst [13] [0, 3, 1, 2, 4, 5, 6, 7, 9, 10, 8, 11, 12, 13] [(23, .bool same)] (by kernel_rfl) ?_
              rw [show same = true from hb72]
              refine segD2 hst [14] [0, 3, 1, 2, 4, 5, 6, 7, 9, 10, 8, 11, 12, 13, 14] [(24, .bool true)] (by kernel_rfl) ?_
              replace H : St w noF m mk96 [blkI g12 [.int .i64 plain.Do, .int .i64 plain.Len, .int .u64 (plain.Sum.toNat : Int), .slice A11_0_3 plain.Bytes.length c11_0_3, .int .i64 plain.Crash.After, .slice A11_0_5 plain.Crash.Torn.length c11_0_5, .int .i64 plain.Call.Do, .int .i64 plain.Call.Ino, .int .i64 plain.Call.A, .int .i64 plain.Call.B, .string ⟨plain.Call.Name.toArray⟩, .bool plain.Call.On] 29, blkI g1 [.int .i64 a.Do, .int .i64 a.Len, .int .u64 (a.Sum.toNat : Int), .slice A0_3 a.Bytes.length c0_3, .int .i64 a.Crash.After, .slice A0_5 a.Crash.Torn.length c0_5, .int .i64 a.Call.Do, .int .i64 a.Call.Ino, .int .i64 a.Call.A, .int .i64 a.Call.B, .string ⟨a.Call.Name.toArray⟩, .bool a.Call.On] 29] w102 := ((H.drop 1 rfl).drop 0 rfl)
              refine stD2 (i := 15) (by kernel_rfl) ⟨(H.has.sub hsub96), H.blk 0 rfl, H.blk 1 rfl⟩ (callR (some 25) 7 #[] Tryd.call7 (law31_live_c H.has (hG1.mono (hsub11.trans hsub96)) (hG3.mono (hsub11.trans hsub96)) h_live1) (by kernel_rfl) ?_)
              rintro _ w103 ⟨rfl, hx103⟩
              replace H := H.ex hx103
              refine segD2 hst [16] [0, 3, 1, 2, 4, 5, 6, 7, 9, 10, 8, 11, 12, 13, 14, 15, 16] [(26, .bool live1)] (by kernel_rfl) ?_
              refine segD2 hst [17] [0, 3, 1, 2, 4, 5, 6, 7, 9, 10, 8, 11, 12, 13, 14, 15, 16, 17] [(2, .bool live1)] (by kernel_rfl) ?_
              refine endD2 (by kernel_rfl) ⟨(H.has.sub hsub96), H.blk 0 rfl, H.blk 1 rfl⟩ ?_
              refine leJ (live1, mk96) ⟨(Option.some.inj hp55).symm, (St.takeN 0 H), hsub96⟩ (by kernel_rfl)
            · refine (newS (some 21) (fun g => .slice (some ⟨g, 0, none⟩) 1 1) [.int .i64 plain1.Do, .int .i64 plain1.Len, .int .u64 (plain1.Sum.toNat : Int), .slice A96_0_3 plain1.Bytes.length c96_0_3, .int .i64 plain1.Crash.After, .slice A96_0_5 plain1.Crash.Torn.length c96_0_5, .int .i64 plain1.Call.Do, .int .i64 plain1.Call.Ino, .int .i64 plain1.Call.A, .int .i64 plain1.Call.B, .string ⟨plain1.Call.Name.toArray⟩, .bool plain1.Call.On] 29 H (by kernel_rfl) ?_)
              intro g104 w104 H
              refine stD2 (i := 8) (by kernel_rfl) ⟨(H.has.sub hsub96), H.blk 1 rfl, H.blk 2 rfl⟩ (newS (some 18) (fun g => .slice (some ⟨g, 0, none⟩) 1 1) [.int .i64 plain.Do, .int .i64 plain.Len, .int .u64 (plain.Sum.toNat : Int), .slice A11_0_3 plain.Bytes.length c11_0_3, .int .i64 plain.Crash.After, .slice A11_0_5 plain.Crash.Torn.length c11_0_5, .int .i64 plain.Call.Do, .int .i64 plain.Call.Ino, .int .i64 plain.Call.A, .int .i64 plain.Call.B, .string ⟨plain.Call.Name.toArray⟩, .bool plain.Call.On] 29 H (by kernel_rfl) ?_)
              intro g105 w105 H
              have H := H.toRow (r := rApiAct) (l := [plain]) 0 rfl (Rows.cons (cs := [.int .i64 plain.Do, .int .i64 plain.Len, .int .u64 (plain.Sum.toNat : Int), .slice A11_0_3 plain.Bytes.length c11_0_3, .int .i64 plain.Crash.After, .slice A11_0_5 plain.Crash.Torn.length c11_0_5, .int .i64 plain.Call.Do, .int .i64 plain.Call.Ino, .int .i64 plain.Call.A, .int .i64 plain.Call.B, .string ⟨plain.Call.Name.toArray⟩, .bool plain.Call.On]) ⟨A11_0_3, c11_0_3, A11_0_5, c11_0_5, rfl, (hs11_0.mono hsub96), (hs11_1.mono hsub96), hl11_0⟩ Rows.nil) (Nat.le_of_ble_eq_true rfl)
              have H := H.toRow (r := rApiAct) (l := [plain1]) 1 rfl (Rows.cons (cs := [.int .i64 plain1.Do, .int .i64 plain1.Len, .int .u64 (plain1.Sum.toNat : Int), .slice A96_0_3 plain1.Bytes.length c96_0_3, .int .i64 plain1.Crash.After, .slice A96_0_5 plain1.Crash.Torn.length c96_0_5, .int .i64 plain1.Call.Do, .int .i64 plain1.Call.Ino, .int .i64 plain1.Call.A, .int .i64 plain1.Call.B, .string ⟨plain1.Call.Name.toArray⟩, .bool plain1.Call.On]) ⟨A96_0_3, c96_0_3, A96_0_5, c96_0_5, rfl, hs96_0, hs96_1, hl96_0⟩ Rows.nil) (Nat.le_of_ble_eq_true rfl)
              have H0_106 := H
              obtain ⟨mf107, hsub107, hsf107, H⟩ := H.fixR 0 rfl
              obtain ⟨mf108, hsub108, hsf108, H⟩ := H.fixR 0 rfl
              refine stD2 (i := 12) (by kernel_rfl) ⟨(H.has.sub ((hsub96.trans hsub107).trans hsub108)), H.blk 0 rfl, H.blk 1 rfl⟩ (callR (some 22) 12 #[.slice (some ⟨g105, 0, none⟩) 1 1, .slice (some ⟨g104, 0, none⟩) 1 1, .bool false] Tryd.call12 (ref31_Same_c H.has [plain] (some ⟨g105, 0, none⟩) 1 (hsf107.mono hsub108) [plain1] (some ⟨g104, 0, none⟩) 1 hsf108 false h_same) (by kernel_rfl) ?_)
              rintro _ w109 ⟨rfl, hx109⟩
              replace H := H0_106.ex hx109
              refine segD2 hst [13] [0, 3, 1, 2, 4, 5, 6, 7, 9, 10, 11, 8, 12, 13] [(23, .bool same)] (by kernel_rfl) ?_
              rw [show same = true from hb72]
              refine segD2 hst [14] [0, 3, 1, 2, 4, 5, 6, 7, 9, 10, 11, 8, 12, 13, 14] [(24, .bool true)] (by kernel_rfl) ?_
              replace H : St w noF m mk96 [blkI g12 [.int .i64 plain.Do, .int .i64 plain.Len, .int .u64 (plain.Sum.toNat : Int), .slice A11_0_3 plain.Bytes.length c11_0_3, .int .i64 plain.Crash.After, .slice A11_0_5 plain.Crash.Torn.length c11_0_5, .int .i64 plain.Call.Do, .int .i64 plain.Call.Ino, .int .i64 plain.Call.A, .int .i64 plain.Call.B, .string ⟨plain.Call.Name.toArray⟩, .bool plain.Call.On] 29, blkI g1 [.int .i64 a.Do, .int .i64 a.Len, .int .u64 (a.Sum.toNat : Int), .slice A0_3 a.Bytes.length c0_3, .int .i64 a.Crash.After, .slice A0_5 a.Crash.Torn.length c0_5, .int .i64 a.Call.Do, .int .i64 a.Call.Ino, .int .i64 a.Call.A, .int .i64 a.Call.B, .string ⟨a.Call.Name.toArray⟩, .bool a.Call.On] 29] w109 := ((H.drop 1 rfl).drop 0 rfl)
              refine stD2 (i := 15) (by kernel_rfl) ⟨(H.has.sub hsub96), H.blk 0 rfl, H.blk 1 rfl⟩ (callR (some 25) 7 #[] Tryd.call7 (law31_live_c H.has (hG1.mono (hsub11.trans hsub96)) (hG3.mono (hsub11.trans hsub96)) h_live1) (by kernel_rfl) ?_)
              rintro _ w110 ⟨rfl, hx110⟩
              replace H := H.ex hx110
              refine segD2 hst [16] [0, 3, 1, 2, 4, 5, 6, 7, 9, 10, 11, 8, 12, 13, 14, 15, 16] [(26, .bool live1)] (by kernel_rfl) ?_
              refine segD2 hst [17] [0, 3, 1, 2, 4, 5, 6, 7, 9, 10, 11, 8, 12, 13, 14, 15, 16, 17] [(2, .bool live1)] (by kernel_rfl) ?_
              refine endD2 (by kernel_rfl) ⟨(H.has.sub hsub96), H.blk 0 rfl, H.blk 1 rfl⟩ ?_
              refine leJ (live1, mk96) ⟨(Option.some.inj hp55).symm, (St.takeN 0 H), hsub96⟩ (by kernel_rfl)
        · have hst : statB (bodyOf Tryd.f3) [1, 1, 1, 0] = true := by kernel_rfl
          refine drawS (fun w' => Has mk11 w' ∧ w'.heap[g12]? = some (.cells [.int .i64 plain.Do, .int .i64 plain.Len, .int .u64 (plain.Sum.toNat : Int), .slice A11_0_3 plain.Bytes.length c11_0_3, .int .i64 plain.Crash.After, .slice A11_0_5 plain.Crash.Torn.length c11_0_5, .int .i64 plain.Call.Do, .int .i64 plain.Call.Ino, .int .i64 plain.Call.A, .int .i64 plain.Call.B, .string ⟨plain.Call.Name.toArray⟩, .bool plain.Call.On].toArray 29 (0, 0)) ∧ w'.heap[g1]? = some (.cells [.int .i64 a.Do, .int .i64 a.Len, .int .u64 (a.Sum.toNat : Int), .slice A0_3 a.Bytes.length c0_3, .int .i64 a.Crash.After, .slice A0_5 a.Crash.Torn.length c0_5, .int .i64 a.Call.Do, .int .i64 a.Call.Ino, .int .i64 a.Call.A, .int .i64 a.Call.B, .string ⟨a.Call.Name.toArray⟩, .bool a.Call.On].toArray 29 (0, 0))) H (by kernel_rfl) (by kernel_rfl) ?_
          intro w121 H
          refine takeD2 (i := 0) (d := (some 10)) (s := vS (Instr.loadAt 29 (.pointer (some (⟨g1, 0, none⟩))))) (v := (.agg #[.int .i64 a.Do, .int .i64 a.Len, .int .u64 (a.Sum.toNat : Int), .slice A0_3 a.Bytes.length c0_3, .int .i64 a.Crash.After, .slice A0_5 a.Crash.Torn.length c0_5, .int .i64 a.Call.Do, .int .i64 a.Call.Ino, .int .i64 a.Call.A, .int .i64 a.Call.B, .string ⟨a.Call.Name.toArray⟩, .bool a.Call.On])) hst (by kernel_rfl) (by kernel_rfl) (fun w' hw' => aggRun _ _ [.int .i64 a.Do, .int .i64 a.Len, .int .u64 (a.Sum.toNat : Int), .slice A0_3 a.Bytes.length c0_3, .int .i64 a.Crash.After, .slice A0_5 a.Crash.Torn.length c0_5, .int .i64 a.Call.Do, .int .i64 a.Call.Ino, .int .i64 a.Call.A, .int .i64 a.Call.B, .string ⟨a.Call.Name.toArray⟩, .bool a.Call.On] (by kernel_rfl) (blk_cells hw'.2.2 (by rfl))) ?_
          refine takeD2 (i := 3) (d := (some 13)) (s := vS (Instr.loadAt 29 (.pointer (some (⟨g1, 0, none⟩))))) (v := (.agg #[.int .i64 a.Do, .int .i64 a.Len, .int .u64 (a.Sum.toNat : Int), .slice A0_3 a.Bytes.length c0_3, .int .i64 a.Crash.After, .slice A0_5 a.Crash.Torn.length c0_5, .int .i64 a.Call.Do, .int .i64 a.Call.Ino, .int .i64 a.Call.A, .int .i64 a.Call.B, .string ⟨a.Call.Name.toArray⟩, .bool a.Call.On])) hst (by kernel_rfl) (by kernel_rfl) (fun w' hw' => aggRun _ _ [.int .i64 a.Do, .int .i64 a.Len, .int .u64 (a.Sum.toNat : Int), .slice A0_3 a.Bytes.length c0_3, .int .i64 a.Crash.After, .slice A0_5 a.Crash.Torn.length c0_5, .int .i64 a.Call.Do, .int .i64 a.Call.Ino, .int .i64 a.Call.A, .int .i64 a.Call.B, .string ⟨a.Call.Name.toArray⟩, .bool a.Call.On] (by kernel_rfl) (blk_cells hw'.2.2 (by rfl))) ?_
          replace H : St w noF m mk11 [blkI g12 [.int .i64 plain.Do, .int .i64 plain.Len, .int .u64 (plain.Sum.toNat : Int), .slice A11_0_3 plain.Bytes.length c11_0_3, .int .i64 plain.Crash.After, .slice A11_0_5 plain.Crash.Torn.length c11_0_5, .int .i64 plain.Call.Do, .int .i64 plain.Call.Ino, .int .i64 plain.Call.A, .int .i64 plain.Call.B, .string ⟨plain.Call.Name.toArray⟩, .bool plain.Call.On] 29, blkI g1 [.int .i64 a.Do, .int .i64 a.Len, .int .u64 (a.Sum.toNat : Int), .slice A0_3 a.Bytes.length c0_3, .int .i64 a.Crash.After, .slice A0_5 a.Crash.Torn.length c0_5, .int .i64 a.Call.Do, .int .i64 a.Call.Ino, .int .i64 a.Call.A, .int .i64 a.Call.B, .string ⟨a.Call.Name.toArray⟩, .bool a.Call.On] 29] w121 := (H.drop 1 rfl)
          refine stD2 (i := 1) (by kernel_rfl) ⟨H.has, H.blk 0 rfl, H.blk 1 rfl⟩ (callR (some 11) 10 #[.agg #[.int .i64 a.Do, .int .i64 a.Len, .int .u64 (a.Sum.toNat : Int), .slice A0_3 a.Bytes.length c0_3, .int .i64 a.Crash.After, .slice A0_5 a.Crash.Torn.length c0_5, .int .i64 a.Call.Do, .int .i64 a.Call.Ino, .int .i64 a.Call.A, .int .i64 a.Call.B, .string ⟨a.Call.Name.toArray⟩, .bool a.Call.On]] Tryd.call10 (script_Check_c H.has a A0_3 c0_3 (s0_3.mono hsub11) A0_5 c0_5 (s0_5.mono hsub11) l0_10 h_check) (by kernel_rfl) ?_)
          rintro _ w122 ⟨rfl, hx122⟩
          replace H := H.ex hx122
          refine stD2 (i := 2) (by kernel_rfl) ⟨H.has, H.blk 0 rfl, H.blk 1 rfl⟩ (callR (some 12) 9 #[.int .i64 check] Tryd.call9 (law31_num_c H.has check) (by kernel_rfl) ?_)
          rintro _ w123 ⟨rfl, hx123⟩
          replace H := H.ex hx123
          refine stD2 (i := 4) (by kernel_rfl) ⟨H.has, H.blk 0 rfl, H.blk 1 rfl⟩ (callR (some 14) 11 #[.agg #[.int .i64 a.Do, .int .i64 a.Len, .int .u64 (a.Sum.toNat : Int), .slice A0_3 a.Bytes.length c0_3, .int .i64 a.Crash.After, .slice A0_5 a.Crash.Torn.length c0_5, .int .i64 a.Call.Do, .int .i64 a.Call.Ino, .int .i64 a.Call.A, .int .i64 a.Call.B, .string ⟨a.Call.Name.toArray⟩, .bool a.Call.On]] Tryd.call11 (ref31_Check_c H.has a A0_3 c0_3 (s0_3.mono hsub11) A0_5 c0_5 (s0_5.mono hsub11) l0_10 h_check1) (by kernel_rfl) ?_)
          rintro _ w124 ⟨rfl, hx124⟩
          replace H := H.ex hx124
          refine segD2 hst [5] [0, 3, 1, 2, 4, 5] [(1, .pointer (some (⟨g1, 0, none⟩))), (3, .pointer (some (⟨g12, 0, none⟩))), (15, .bool ((law31_num check) == check1))] (by kernel_rfl) ?_
          rw [show ((law31_num check) == check1) = true from hb60]
          refine segD2 hst [6] [0, 3, 1, 2, 4, 5, 6] [(1, .pointer (some (⟨g1, 0, none⟩))), (3, .pointer (some (⟨g12, 0, none⟩))), (16, .bool true)] (by kernel_rfl) ?_
          refine takeD2 (i := 7) (d := (some 17)) (s := vS (Instr.loadAt 29 (.pointer (some (⟨g12, 0, none⟩))))) (v := (.agg #[.int .i64 plain.Do, .int .i64 plain.Len, .int .u64 (plain.Sum.toNat : Int), .slice A11_0_3 plain.Bytes.length c11_0_3, .int .i64 plain.Crash.After, .slice A11_0_5 plain.Crash.Torn.length c11_0_5, .int .i64 plain.Call.Do, .int .i64 plain.Call.Ino, .int .i64 plain.Call.A, .int .i64 plain.Call.B, .string ⟨plain.Call.Name.toArray⟩, .bool plain.Call.On])) hst (by kernel_rfl) (by kernel_rfl) (fun w' hw' => aggRun _ _ [.int .i64 plain.Do, .int .i64 plain.Len, .int .u64 (plain.Sum.toNat : Int), .slice A11_0_3 plain.Bytes.length c11_0_3, .int .i64 plain.Crash.After, .slice A11_0_5 plain.Crash.Torn.length c11_0_5, .int .i64 plain.Call.Do, .int .i64 plain.Call.Ino, .int .i64 plain.Call.A, .int .i64 plain.Call.B, .string ⟨plain.Call.Name.toArray⟩, .bool plain.Call.On] (by kernel_rfl) (blk_cells hw'.2.1 (by rfl))) ?_
          refine takeD2 (i := 9) (d := (some 19)) (s := vS (Instr.loadAt 29 (.pointer (some (⟨g1, 0, none⟩))))) (v := (.agg #[.int .i64 a.Do, .int .i64 a.Len, .int .u64 (a.Sum.toNat : Int), .slice A0_3 a.Bytes.length c0_3, .int .i64 a.Crash.After, .slice A0_5 a.Crash.Torn.length c0_5, .int .i64 a.Call.Do, .int .i64 a.Call.Ino, .int .i64 a.Call.A, .int .i64 a.Call.B, .string ⟨a.Call.Name.toArray⟩, .bool a.Call.On])) hst (by kernel_rfl) (by kernel_rfl) (fun w' hw' => aggRun _ _ [.int .i64 a.Do, .int .i64 a.Len, .int .u64 (a.Sum.toNat : Int), .slice A0_3 a.Bytes.length c0_3, .int .i64 a.Crash.After, .slice A0_5 a.Crash.Torn.length c0_5, .int .i64 a.Call.Do, .int .i64 a.Call.Ino, .int .i64 a.Call.A, .int .i64 a.Call.B, .string ⟨a.Call.Name.toArray⟩, .bool a.Call.On] (by kernel_rfl) (blk_cells hw'.2.2 (by rfl))) ?_
          refine allD2 [8, 10] (by kernel_rfl) ⟨H.has, H.blk 0 rfl, H.blk 1 rfl⟩ ⟨?_, ?_, trivial⟩
          · refine (newS (some 18) (fun g => .slice (some ⟨g, 0, none⟩) 1 1) [.int .i64 plain.Do, .int .i64 plain.Len, .int .u64 (plain.Sum.toNat : Int), .slice A11_0_3 plain.Bytes.length c11_0_3, .int .i64 plain.Crash.After, .slice A11_0_5 plain.Crash.Torn.length c11_0_5, .int .i64 plain.Call.Do, .int .i64 plain.Call.Ino, .int .i64 plain.Call.A, .int .i64 plain.Call.B, .string ⟨plain.Call.Name.toArray⟩, .bool plain.Call.On] 29 H (by kernel_rfl) ?_)
            intro g125 w125 H
            replace H : St w noF m mk11 [blkI g125 [.int .i64 plain.Do, .int .i64 plain.Len, .int .u64 (plain.Sum.toNat : Int), .slice A11_0_3 plain.Bytes.length c11_0_3, .int .i64 plain.Crash.After, .slice A11_0_5 plain.Crash.Torn.length c11_0_5, .int .i64 plain.Call.Do, .int .i64 plain.Call.Ino, .int .i64 plain.Call.A, .int .i64 plain.Call.B, .string ⟨plain.Call.Name.toArray⟩, .bool plain.Call.On] 29, blkI g12 [.int .i64 plain.Do, .int .i64 plain.Len, .int .u64 (plain.Sum.toNat : Int), .slice A11_0_3 plain.Bytes.length c11_0_3, .int .i64 plain.Crash.After, .slice A11_0_5 plain.Crash.Torn.length c11_0_5, .int .i64 plain.Call.Do, .int .i64 plain.Call.Ino, .int .i64 plain.Call.A, .int .i64 plain.Call.B, .string ⟨plain.Call.Name.toArray⟩, .bool plain.Call.On] 29, blkI g1 [.int .i64 a.Do, .int .i64 a.Len, .int .u64 (a.Sum.toNat : Int), .slice A0_3 a.Bytes.length c0_3, .int .i64 a.Crash.After, .slice A0_5 a.Crash.Torn.length c0_5, .int .i64 a.Call.Do, .int .i64 a.Call.Ino, .int .i64 a.Call.A, .int .i64 a.Call.B, .string ⟨a.Call.Name.toArray⟩, .bool a.Call.On] 29] w125 := H
            refine stD2 (i := 10) (by kernel_rfl) ⟨H.has, H.blk 1 rfl, H.blk 2 rfl⟩ (callR (some 20) 13 #[.agg #[.int .i64 a.Do, .int .i64 a.Len, .int .u64 (a.Sum.toNat : Int), .slice A0_3 a.Bytes.length c0_3, .int .i64 a.Crash.After, .slice A0_5 a.Crash.Torn.length c0_5, .int .i64 a.Call.Do, .int .i64 a.Call.Ino, .int .i64 a.Call.A, .int .i64 a.Call.B, .string ⟨a.Call.Name.toArray⟩, .bool a.Call.On]] Tryd.call13 (ref31_Plain_c H.has a A0_3 c0_3 (s0_3.mono hsub11) A0_5 c0_5 (s0_5.mono hsub11) l0_10 h_plain1) (by kernel_rfl) ?_)
            rintro _ w126 ⟨A126_0_3, c126_0_3, A126_0_5, c126_0_5, mk126, rfl, hS126, hs126_0, hs126_1, hl126_0⟩
            have hsub126 := hS126.sub
            replace H := H.call0 hS126
            refine stD2 (i := 11) (by kernel_rfl) ⟨(H.has.sub hsub126), H.blk 1 rfl, H.blk 2 rfl⟩ (newS (some 21) (fun g => .slice (some ⟨g, 0, none⟩) 1 1) [.int .i64 plain1.Do, .int .i64 plain1.Len, .int .u64 (plain1.Sum.toNat : Int), .slice A126_0_3 plain1.Bytes.length c126_0_3, .int .i64 plain1.Crash.After, .slice A126_0_5 plain1.Crash.Torn.length c126_0_5, .int .i64 plain1.Call.Do, .int .i64 plain1.Call.Ino, .int .i64 plain1.Call.A, .int .i64 plain1.Call.B, .string ⟨plain1.Call.Name.toArray⟩, .bool plain1.Call.On] 29 H (by kernel_rfl) ?_)
            intro g127 w127 H
            have H := H.toRow (r := rApiAct) (l := [plain]) 1 rfl (Rows.cons (cs := [.int .i64 plain.Do, .int .i64 plain.Len, .int .u64 (plain.Sum.toNat : Int), .slice A11_0_3 plain.Bytes.length c11_0_3, .int .i64 plain.Crash.After, .slice A11_0_5 plain.Crash.Torn.length c11_0_5, .int .i64 plain.Call.Do, .int .i64 plain.Call.Ino, .int .i64 plain.Call.A, .int .i64 plain.Call.B, .string ⟨plain.Call.Name.toArray⟩, .bool plain.Call.On]) ⟨A11_0_3, c11_0_3, A11_0_5, c11_0_5, rfl, (hs11_0.mono hsub126), (hs11_1.mono hsub126), hl11_0⟩ Rows.nil) (Nat.le_of_ble_eq_true rfl)
            have H := H.toRow (r := rApiAct) (l := [plain1]) 0 rfl (Rows.cons (cs := [.int .i64 plain1.Do, .int .i64 plain1.Len, .int .u64 (plain1.Sum.toNat : Int), .slice A126_0_3 plain1.Bytes.length c126_0_3, .int .i64 plain1.Crash.After, .slice A126_0_5 plain1.Crash.Torn.length c126_0_5, .int .i64 plain1.Call.Do, .int .i64 plain1.Call.Ino, .int .i64 plain1.Call.A, .int .i64 plain1.Call.B, .string ⟨plain1.Call.Name.toArray⟩, .bool plain1.Call.On]) ⟨A126_0_3, c126_0_3, A126_0_5, c126_0_5, rfl, hs126_0, hs126_1, hl126_0⟩ Rows.nil) (Nat.le_of_ble_eq_true rfl)
            have H0_128 := H
            obtain ⟨mf129, hsub129, hsf129, H⟩ := H.fixR 1 rfl
            obtain ⟨mf130, hsub130, hsf130, H⟩ := H.fixR 0 rfl
            refine stD2 (i := 12) (by kernel_rfl) ⟨(H.has.sub ((hsub126.trans hsub129).trans hsub130)), H.blk 0 rfl, H.blk 1 rfl⟩ (callR (some 22) 12 #[.slice (some ⟨g125, 0, none⟩) 1 1, .slice (some ⟨g127, 0, none⟩) 1 1, .bool false] Tryd.call12 (ref31_Same_c H.has [plain] (some ⟨g125, 0, none⟩) 1 (hsf129.mono hsub130) [plain1] (some ⟨g127, 0, none⟩) 1 hsf130 false h_same) (by kernel_rfl) ?_)
            rintro _ w131 ⟨rfl, hx131⟩
            replace H := H0_128.ex hx131
            refine segD2 hst [13] [0, 3, 1, 2, 4, 5, 6, 7, 9, 8, 10, 11, 12, 13] [(23, .bool same)] (by kernel_rfl) ?_
            rw [show same = false from hb72]
            refine segD2 hst [14, 15, 16, 17] [0, 3, 1, 2, 4, 5, 6, 7, 9, 8, 10, 11, 12, 13, 14, 15, 16, 17] [(2, .bool false)] (by kernel_rfl) ?_
            refine endD2 (by kernel_rfl) ⟨(H.has.sub hsub126), H.blk 2 rfl, H.blk 3 rfl⟩ ?_
            refine leJ (false, mk126) ⟨(Option.some.inj hp55).symm, (St.takeN 0 H), hsub126⟩ (by kernel_rfl)
          · refine (callR (some 20) 13 #[.agg #[.int .i64 a.Do, .int .i64 a.Len, .int .u64 (a.Sum.toNat : Int), .slice A0_3 a.Bytes.length c0_3, .int .i64 a.Crash.After, .slice A0_5 a.Crash.Torn.length c0_5, .int .i64 a.Call.Do, .int .i64 a.Call.Ino, .int .i64 a.Call.A, .int .i64 a.Call.B, .string ⟨a.Call.Name.toArray⟩, .bool a.Call.On]] Tryd.call13 (ref31_Plain_c H.has a A0_3 c0_3 (s0_3.mono hsub11) A0_5 c0_5 (s0_5.mono hsub11) l0_10 h_plain1) (by kernel_rfl) ?_)
            rintro _ w132 ⟨A132_0_3, c132_0_3, A132_0_5, c132_0_5, mk132, rfl, hS132, hs132_0, hs132_1, hl132_0⟩
            have hsub132 := hS132.sub
            replace H := H.call0 hS132
            refine allD2 [8, 11] (by kernel_rfl) ⟨(H.has.sub hsub132), H.blk 0 rfl, H.blk 1 rfl⟩ ⟨?_, ?_, trivial⟩
            · replace H : St w noF m mk132 [blkI g12 [.int .i64 plain.Do, .int .i64 plain.Len, .int .u64 (plain.Sum.toNat : Int), .slice A11_0_3 plain.Bytes.length c11_0_3, .int .i64 plain.Crash.After, .slice A11_0_5 plain.Crash.Torn.length c11_0_5, .int .i64 plain.Call.Do, .int .i64 plain.Call.Ino, .int .i64 plain.Call.A, .int .i64 plain.Call.B, .string ⟨plain.Call.Name.toArray⟩, .bool plain.Call.On] 29, blkI g1 [.int .i64 a.Do, .int .i64 a.Len, .int .u64 (a.Sum.toNat : Int), .slice A0_3 a.Bytes.length c0_3, .int .i64 a.Crash.After, .slice A0_5 a.Crash.Torn.length c0_5, .int .i64 a.Call.Do, .int .i64 a.Call.Ino, .int .i64 a.Call.A, .int .i64 a.Call.B, .string ⟨a.Call.Name.toArray⟩, .bool a.Call.On] 29] w132 := H
              refine (newS (some 18) (fun g => .slice (some ⟨g, 0, none⟩) 1 1) [.int .i64 plain.Do, .int .i64 plain.Len, .int .u64 (plain.Sum.toNat : Int), .slice A11_0_3 plain.Bytes.length c11_0_3, .int .i64 plain.Crash.After, .slice A11_0_5 plain.Crash.Torn.length c11_0_5, .int .i64 plain.Call.Do, .int .i64 plain.Call.Ino, .int .i64 plain.Call.A, .int .i64 plain.Call.B, .string ⟨plain.Call.Name.toArray⟩, .bool plain.Call.On] 29 H (by kernel_rfl) ?_)
              intro g133 w133 H
              refine stD2 (i := 11) (by kernel_rfl) ⟨(H.has.sub hsub132), H.blk 1 rfl, H.blk 2 rfl⟩ (newS (some 21) (fun g => .slice (some ⟨g, 0, none⟩) 1 1) [.int .i64 plain1.Do, .int .i64 plain1.Len, .int .u64 (plain1.Sum.toNat : Int), .slice A132_0_3 plain1.Bytes.length c132_0_3, .int .i64 plain1.Crash.After, .slice A132_0_5 plain1.Crash.Torn.length c132_0_5, .int .i64 plain1.Call.Do, .int .i64 plain1.Call.Ino, .int .i64 plain1.Call.A, .int .i64 plain1.Call.B, .string ⟨plain1.Call.Name.toArray⟩, .bool plain1.Call.On] 29 H (by kernel_rfl) ?_)
              intro g134 w134 H
              have H := H.toRow (r := rApiAct) (l := [plain]) 1 rfl (Rows.cons (cs := [.int .i64 plain.Do, .int .i64 plain.Len, .int .u64 (plain.Sum.toNat : Int), .slice A11_0_3 plain.Bytes.length c11_0_3, .int .i64 plain.Crash.After, .slice A11_0_5 plain.Crash.Torn.length c11_0_5, .int .i64 plain.Call.Do, .int .i64 plain.Call.Ino, .int .i64 plain.Call.A, .int .i64 plain.Call.B, .string ⟨plain.Call.Name.toArray⟩, .bool plain.Call.On]) ⟨A11_0_3, c11_0_3, A11_0_5, c11_0_5, rfl, (hs11_0.mono hsub132), (hs11_1.mono hsub132), hl11_0⟩ Rows.nil) (Nat.le_of_ble_eq_true rfl)
              have H := H.toRow (r := rApiAct) (l := [plain1]) 0 rfl (Rows.cons (cs := [.int .i64 plain1.Do, .int .i64 plain1.Len, .int .u64 (plain1.Sum.toNat : Int), .slice A132_0_3 plain1.Bytes.length c132_0_3, .int .i64 plain1.Crash.After, .slice A132_0_5 plain1.Crash.Torn.length c132_0_5, .int .i64 plain1.Call.Do, .int .i64 plain1.Call.Ino, .int .i64 plain1.Call.A, .int .i64 plain1.Call.B, .string ⟨plain1.Call.Name.toArray⟩, .bool plain1.Call.On]) ⟨A132_0_3, c132_0_3, A132_0_5, c132_0_5, rfl, hs132_0, hs132_1, hl132_0⟩ Rows.nil) (Nat.le_of_ble_eq_true rfl)
              have H0_135 := H
              obtain ⟨mf136, hsub136, hsf136, H⟩ := H.fixR 1 rfl
              obtain ⟨mf137, hsub137, hsf137, H⟩ := H.fixR 0 rfl
              refine stD2 (i := 12) (by kernel_rfl) ⟨(H.has.sub ((hsub132.trans hsub136).trans hsub137)), H.blk 0 rfl, H.blk 1 rfl⟩ (callR (some 22) 12 #[.slice (some ⟨g133, 0, none⟩) 1 1, .slice (some ⟨g134, 0, none⟩) 1 1, .bool false] Tryd.call12 (ref31_Same_c H.has [plain] (some ⟨g133, 0, none⟩) 1 (hsf136.mono hsub137) [plain1] (some ⟨g134, 0, none⟩) 1 hsf137 false h_same) (by kernel_rfl) ?_)
              rintro _ w138 ⟨rfl, hx138⟩
              replace H := H0_135.ex hx138
              refine segD2 hst [13] [0, 3, 1, 2, 4, 5, 6, 7, 9, 10, 8, 11, 12, 13] [(23, .bool same)] (by kernel_rfl) ?_
              rw [show same = false from hb72]
              refine segD2 hst [14, 15, 16, 17] [0, 3, 1, 2, 4, 5, 6, 7, 9, 10, 8, 11, 12, 13, 14, 15, 16, 17] [(2, .bool false)] (by kernel_rfl) ?_
              refine endD2 (by kernel_rfl) ⟨(H.has.sub hsub132), H.blk 2 rfl, H.blk 3 rfl⟩ ?_
              refine leJ (false, mk132) ⟨(Option.some.inj hp55).symm, (St.takeN 0 H), hsub132⟩ (by kernel_rfl)
            · refine (newS (some 21) (fun g => .slice (some ⟨g, 0, none⟩) 1 1) [.int .i64 plain1.Do, .int .i64 plain1.Len, .int .u64 (plain1.Sum.toNat : Int), .slice A132_0_3 plain1.Bytes.length c132_0_3, .int .i64 plain1.Crash.After, .slice A132_0_5 plain1.Crash.Torn.length c132_0_5, .int .i64 plain1.Call.Do, .int .i64 plain1.Call.Ino, .int .i64 plain1.Call.A, .int .i64 plain1.Call.B, .string ⟨plain1.Call.Name.toArray⟩, .bool plain1.Call.On] 29 H (by kernel_rfl) ?_)
              intro g139 w139 H
              replace H : St w noF m mk132 [blkI g139 [.int .i64 plain1.Do, .int .i64 plain1.Len, .int .u64 (plain1.Sum.toNat : Int), .slice A132_0_3 plain1.Bytes.length c132_0_3, .int .i64 plain1.Crash.After, .slice A132_0_5 plain1.Crash.Torn.length c132_0_5, .int .i64 plain1.Call.Do, .int .i64 plain1.Call.Ino, .int .i64 plain1.Call.A, .int .i64 plain1.Call.B, .string ⟨plain1.Call.Name.toArray⟩, .bool plain1.Call.On] 29, blkI g12 [.int .i64 plain.Do, .int .i64 plain.Len, .int .u64 (plain.Sum.toNat : Int), .slice A11_0_3 plain.Bytes.length c11_0_3, .int .i64 plain.Crash.After, .slice A11_0_5 plain.Crash.Torn.length c11_0_5, .int .i64 plain.Call.Do, .int .i64 plain.Call.Ino, .int .i64 plain.Call.A, .int .i64 plain.Call.B, .string ⟨plain.Call.Name.toArray⟩, .bool plain.Call.On] 29, blkI g1 [.int .i64 a.Do, .int .i64 a.Len, .int .u64 (a.Sum.toNat : Int), .slice A0_3 a.Bytes.length c0_3, .int .i64 a.Crash.After, .slice A0_5 a.Crash.Torn.length c0_5, .int .i64 a.Call.Do, .int .i64 a.Call.Ino, .int .i64 a.Call.A, .int .i64 a.Call.B, .string ⟨a.Call.Name.toArray⟩, .bool a.Call.On] 29] w139 := H
              refine stD2 (i := 8) (by kernel_rfl) ⟨(H.has.sub hsub132), H.blk 1 rfl, H.blk 2 rfl⟩ (newS (some 18) (fun g => .slice (some ⟨g, 0, none⟩) 1 1) [.int .i64 plain.Do, .int .i64 plain.Len, .int .u64 (plain.Sum.toNat : Int), .slice A11_0_3 plain.Bytes.length c11_0_3, .int .i64 plain.Crash.After, .slice A11_0_5 plain.Crash.Torn.length c11_0_5, .int .i64 plain.Call.Do, .int .i64 plain.Call.Ino, .int .i64 plain.Call.A, .int .i64 plain.Call.B, .string ⟨plain.Call.Name.toArray⟩, .bool plain.Call.On] 29 H (by kernel_rfl) ?_)
              intro g140 w140 H
              have H := H.toRow (r := rApiAct) (l := [plain]) 0 rfl (Rows.cons (cs := [.int .i64 plain.Do, .int .i64 plain.Len, .int .u64 (plain.Sum.toNat : Int), .slice A11_0_3 plain.Bytes.length c11_0_3, .int .i64 plain.Crash.After, .slice A11_0_5 plain.Crash.Torn.length c11_0_5, .int .i64 plain.Call.Do, .int .i64 plain.Call.Ino, .int .i64 plain.Call.A, .int .i64 plain.Call.B, .string ⟨plain.Call.Name.toArray⟩, .bool plain.Call.On]) ⟨A11_0_3, c11_0_3, A11_0_5, c11_0_5, rfl, (hs11_0.mono hsub132), (hs11_1.mono hsub132), hl11_0⟩ Rows.nil) (Nat.le_of_ble_eq_true rfl)
              have H := H.toRow (r := rApiAct) (l := [plain1]) 1 rfl (Rows.cons (cs := [.int .i64 plain1.Do, .int .i64 plain1.Len, .int .u64 (plain1.Sum.toNat : Int), .slice A132_0_3 plain1.Bytes.length c132_0_3, .int .i64 plain1.Crash.After, .slice A132_0_5 plain1.Crash.Torn.length c132_0_5, .int .i64 plain1.Call.Do, .int .i64 plain1.Call.Ino, .int .i64 plain1.Call.A, .int .i64 plain1.Call.B, .string ⟨plain1.Call.Name.toArray⟩, .bool plain1.Call.On]) ⟨A132_0_3, c132_0_3, A132_0_5, c132_0_5, rfl, hs132_0, hs132_1, hl132_0⟩ Rows.nil) (Nat.le_of_ble_eq_true rfl)
              have H0_141 := H
              obtain ⟨mf142, hsub142, hsf142, H⟩ := H.fixR 0 rfl
              obtain ⟨mf143, hsub143, hsf143, H⟩ := H.fixR 0 rfl
              refine stD2 (i := 12) (by kernel_rfl) ⟨(H.has.sub ((hsub132.trans hsub142).trans hsub143)), H.blk 0 rfl, H.blk 1 rfl⟩ (callR (some 22) 12 #[.slice (some ⟨g140, 0, none⟩) 1 1, .slice (some ⟨g139, 0, none⟩) 1 1, .bool false] Tryd.call12 (ref31_Same_c H.has [plain] (some ⟨g140, 0, none⟩) 1 (hsf142.mono hsub143) [plain1] (some ⟨g139, 0, none⟩) 1 hsf143 false h_same) (by kernel_rfl) ?_)
              rintro _ w144 ⟨rfl, hx144⟩
              replace H := H0_141.ex hx144
              refine segD2 hst [13] [0, 3, 1, 2, 4, 5, 6, 7, 9, 10, 11, 8, 12, 13] [(23, .bool same)] (by kernel_rfl) ?_
              rw [show same = false from hb72]
              refine segD2 hst [14, 15, 16, 17] [0, 3, 1, 2, 4, 5, 6, 7, 9, 10, 11, 8, 12, 13, 14, 15, 16, 17] [(2, .bool false)] (by kernel_rfl) ?_
              refine endD2 (by kernel_rfl) ⟨(H.has.sub hsub132), H.blk 2 rfl, H.blk 3 rfl⟩ ?_
              refine leJ (false, mk132) ⟨(Option.some.inj hp55).symm, (St.takeN 0 H), hsub132⟩ (by kernel_rfl)
      · have hst : statB (bodyOf Tryd.f3) [1, 1, 1, 0] = true := by kernel_rfl
        refine drawS (fun w' => Has mk11 w' ∧ w'.heap[g12]? = some (.cells [.int .i64 plain.Do, .int .i64 plain.Len, .int .u64 (plain.Sum.toNat : Int), .slice A11_0_3 plain.Bytes.length c11_0_3, .int .i64 plain.Crash.After, .slice A11_0_5 plain.Crash.Torn.length c11_0_5, .int .i64 plain.Call.Do, .int .i64 plain.Call.Ino, .int .i64 plain.Call.A, .int .i64 plain.Call.B, .string ⟨plain.Call.Name.toArray⟩, .bool plain.Call.On].toArray 29 (0, 0)) ∧ w'.heap[g1]? = some (.cells [.int .i64 a.Do, .int .i64 a.Len, .int .u64 (a.Sum.toNat : Int), .slice A0_3 a.Bytes.length c0_3, .int .i64 a.Crash.After, .slice A0_5 a.Crash.Torn.length c0_5, .int .i64 a.Call.Do, .int .i64 a.Call.Ino, .int .i64 a.Call.A, .int .i64 a.Call.B, .string ⟨a.Call.Name.toArray⟩, .bool a.Call.On].toArray 29 (0, 0))) H (by kernel_rfl) (by kernel_rfl) ?_
        intro w148 H
        refine takeD2 (i := 0) (d := (some 10)) (s := vS (Instr.loadAt 29 (.pointer (some (⟨g1, 0, none⟩))))) (v := (.agg #[.int .i64 a.Do, .int .i64 a.Len, .int .u64 (a.Sum.toNat : Int), .slice A0_3 a.Bytes.length c0_3, .int .i64 a.Crash.After, .slice A0_5 a.Crash.Torn.length c0_5, .int .i64 a.Call.Do, .int .i64 a.Call.Ino, .int .i64 a.Call.A, .int .i64 a.Call.B, .string ⟨a.Call.Name.toArray⟩, .bool a.Call.On])) hst (by kernel_rfl) (by kernel_rfl) (fun w' hw' => aggRun _ _ [.int .i64 a.Do, .int .i64 a.Len, .int .u64 (a.Sum.toNat : Int), .slice A0_3 a.Bytes.length c0_3, .int .i64 a.Crash.After, .slice A0_5 a.Crash.Torn.length c0_5, .int .i64 a.Call.Do, .int .i64 a.Call.Ino, .int .i64 a.Call.A, .int .i64 a.Call.B, .string ⟨a.Call.Name.toArray⟩, .bool a.Call.On] (by kernel_rfl) (blk_cells hw'.2.2 (by rfl))) ?_
        refine takeD2 (i := 3) (d := (some 13)) (s := vS (Instr.loadAt 29 (.pointer (some (⟨g1, 0, none⟩))))) (v := (.agg #[.int .i64 a.Do, .int .i64 a.Len, .int .u64 (a.Sum.toNat : Int), .slice A0_3 a.Bytes.length c0_3, .int .i64 a.Crash.After, .slice A0_5 a.Crash.Torn.length c0_5, .int .i64 a.Call.Do, .int .i64 a.Call.Ino, .int .i64 a.Call.A, .int .i64 a.Call.B, .string ⟨a.Call.Name.toArray⟩, .bool a.Call.On])) hst (by kernel_rfl) (by kernel_rfl) (fun w' hw' => aggRun _ _ [.int .i64 a.Do, .int .i64 a.Len, .int .u64 (a.Sum.toNat : Int), .slice A0_3 a.Bytes.length c0_3, .int .i64 a.Crash.After, .slice A0_5 a.Crash.Torn.length c0_5, .int .i64 a.Call.Do, .int .i64 a.Call.Ino, .int .i64 a.Call.A, .int .i64 a.Call.B, .string ⟨a.Call.Name.toArray⟩, .bool a.Call.On] (by kernel_rfl) (blk_cells hw'.2.2 (by rfl))) ?_
        replace H : St w noF m mk11 [blkI g12 [.int .i64 plain.Do, .int .i64 plain.Len, .int .u64 (plain.Sum.toNat : Int), .slice A11_0_3 plain.Bytes.length c11_0_3, .int .i64 plain.Crash.After, .slice A11_0_5 plain.Crash.Torn.length c11_0_5, .int .i64 plain.Call.Do, .int .i64 plain.Call.Ino, .int .i64 plain.Call.A, .int .i64 plain.Call.B, .string ⟨plain.Call.Name.toArray⟩, .bool plain.Call.On] 29, blkI g1 [.int .i64 a.Do, .int .i64 a.Len, .int .u64 (a.Sum.toNat : Int), .slice A0_3 a.Bytes.length c0_3, .int .i64 a.Crash.After, .slice A0_5 a.Crash.Torn.length c0_5, .int .i64 a.Call.Do, .int .i64 a.Call.Ino, .int .i64 a.Call.A, .int .i64 a.Call.B, .string ⟨a.Call.Name.toArray⟩, .bool a.Call.On] 29] w148 := (H.drop 1 rfl)
        refine stD2 (i := 1) (by kernel_rfl) ⟨H.has, H.blk 0 rfl, H.blk 1 rfl⟩ (callR (some 11) 10 #[.agg #[.int .i64 a.Do, .int .i64 a.Len, .int .u64 (a.Sum.toNat : Int), .slice A0_3 a.Bytes.length c0_3, .int .i64 a.Crash.After, .slice A0_5 a.Crash.Torn.length c0_5, .int .i64 a.Call.Do, .int .i64 a.Call.Ino, .int .i64 a.Call.A, .int .i64 a.Call.B, .string ⟨a.Call.Name.toArray⟩, .bool a.Call.On]] Tryd.call10 (script_Check_c H.has a A0_3 c0_3 (s0_3.mono hsub11) A0_5 c0_5 (s0_5.mono hsub11) l0_10 h_check) (by kernel_rfl) ?_)
        rintro _ w149 ⟨rfl, hx149⟩
        replace H := H.ex hx149
        refine stD2 (i := 2) (by kernel_rfl) ⟨H.has, H.blk 0 rfl, H.blk 1 rfl⟩ (callR (some 12) 9 #[.int .i64 check] Tryd.call9 (law31_num_c H.has check) (by kernel_rfl) ?_)
        rintro _ w150 ⟨rfl, hx150⟩
        replace H := H.ex hx150
        refine stD2 (i := 4) (by kernel_rfl) ⟨H.has, H.blk 0 rfl, H.blk 1 rfl⟩ (callR (some 14) 11 #[.agg #[.int .i64 a.Do, .int .i64 a.Len, .int .u64 (a.Sum.toNat : Int), .slice A0_3 a.Bytes.length c0_3, .int .i64 a.Crash.After, .slice A0_5 a.Crash.Torn.length c0_5, .int .i64 a.Call.Do, .int .i64 a.Call.Ino, .int .i64 a.Call.A, .int .i64 a.Call.B, .string ⟨a.Call.Name.toArray⟩, .bool a.Call.On]] Tryd.call11 (ref31_Check_c H.has a A0_3 c0_3 (s0_3.mono hsub11) A0_5 c0_5 (s0_5.mono hsub11) l0_10 h_check1) (by kernel_rfl) ?_)
        rintro _ w151 ⟨rfl, hx151⟩
        replace H := H.ex hx151
        refine segD2 hst [5] [0, 3, 1, 2, 4, 5] [(1, .pointer (some (⟨g1, 0, none⟩))), (3, .pointer (some (⟨g12, 0, none⟩))), (15, .bool ((law31_num check) == check1))] (by kernel_rfl) ?_
        rw [show ((law31_num check) == check1) = false from hb60]
        refine segD2 hst [6, 7, 8, 9, 10, 11, 12, 13, 14, 15, 16, 17] [0, 3, 1, 2, 4, 5, 6, 7, 8, 9, 10, 11, 12, 13, 14, 15, 16, 17] [(2, .bool false)] (by kernel_rfl) ?_
        refine endD2 (by kernel_rfl) ⟨H.has, H.blk 0 rfl, H.blk 1 rfl⟩ ?_
        refine leJ (false, mk11) ⟨(Option.some.inj hp55).symm, (St.takeN 0 H), (Sub.refl _)⟩ (by kernel_rfl)
    rintro ⟨t, mm56⟩ wj55 ⟨hy55, H, hsub56⟩
    try dsimp only at hy55
    try dsimp only at H
    try dsimp only at hsub56
    rw [hy55] at hf
    refine retR [2] [.bool t] (by kernel_rfl) (by kernel_rfl) (by kernel_rfl) ?_
    have hret := (Option.some.inj hf)
    subst hret
    exact ⟨_, rfl, rfl, H.scalar⟩
theorem ref31_word_c {m : Mem} {w : World} (hm : Has m w) (a : TApiAct) (A0_3 : Option Addr) (c0_3 : Nat) (s0_3 : SlI rU8 m A0_3 c0_3 a.Bytes) (A0_5 : Option Addr) (c0_5 : Nat) (s0_5 : SlI rU8 m A0_5 c0_5 a.Crash.Torn) (l0_10 : a.Call.Name.length ≤ 9223372036854775807) {r : (List UInt8)} (hf : ref31_word a = some r) :
    Calls Tryd.prog 40 #[.agg #[.int .i64 a.Do, .int .i64 a.Len, .int .u64 (a.Sum.toNat : Int), .slice A0_3 a.Bytes.length c0_3, .int .i64 a.Crash.After, .slice A0_5 a.Crash.Torn.length c0_5, .int .i64 a.Call.Do, .int .i64 a.Call.Ino, .int .i64 a.Call.A, .int .i64 a.Call.B, .string ⟨a.Call.Name.toArray⟩, .bool a.Call.On]] w fun e w' => ∃ v, e = .returned v ∧ v = .string ⟨r.toArray⟩ ∧ Ex w w' ∧ r.length ≤ 9223372036854775807 := by
  unfold ref31_word at hf
  have H := St.start0 hm
  refine callsR Tryd.func40 (by kernel_rfl) (by kernel_rfl) ?_
  refine seg 2 [.op [0] 0, .co [1]] [(0, .agg #[.int .i64 a.Do, .int .i64 a.Len, .int .u64 (a.Sum.toNat : Int), .slice A0_3 a.Bytes.length c0_3, .int .i64 a.Crash.After, .slice A0_5 a.Crash.Torn.length c0_5, .int .i64 a.Call.Do, .int .i64 a.Call.Ino, .int .i64 a.Call.A, .int .i64 a.Call.B, .string ⟨a.Call.Name.toArray⟩, .bool a.Call.On])] (by kernel_rfl) ?_
  refine st (newS (some 1) (fun g => .pointer (some ⟨g, 0, none⟩)) [.int .i64 a.Do, .int .i64 a.Len, .int .u64 (a.Sum.toNat : Int), .slice A0_3 a.Bytes.length c0_3, .int .i64 a.Crash.After, .slice A0_5 a.Crash.Torn.length c0_5, .int .i64 a.Call.Do, .int .i64 a.Call.Ino, .int .i64 a.Call.A, .int .i64 a.Call.B, .string ⟨a.Call.Name.toArray⟩, .bool a.Call.On] 29 H (by kernel_rfl) ?_)
  intro g1 w1 H
  refine seg 6 [.op [1, 0, 0] 1, .co [1, 0, 1], .co [1, 1]] [(1, .pointer (some (⟨g1, 0, none⟩))), (3, .pointer (some (⟨g1, 0, none⟩)))] (by kernel_rfl) ?_
  refine st (ldR (some 4) 3 (⟨g1, 0, none⟩) (.int .i64 a.Do) (by kernel_rfl) (by kernel_rfl) (H.cellB 0 rfl rfl) ?_)
  refine seg 2 [.co [1, 0, 1], .co [1, 1]] [(1, .pointer (some (⟨g1, 0, none⟩))), (5, .bool (a.Do == 7))] (by kernel_rfl) ?_
  rcases condT hf with ⟨hb6, hf⟩ | ⟨hb6, hf⟩
  · rw [hb6]
    refine seg 3 [.op [1, 0, 1, 0, 0] 0, .co [1, 0, 1, 0, 1], .co [1, 1]] [(1, .pointer (some (⟨g1, 0, none⟩)))] (by kernel_rfl) ?_
    refine st (newS (some 6) (fun g => .slice (some ⟨g, 0, none⟩) 9 9) [.string ⟨([] : List UInt8).toArray⟩, .string ⟨([108, 111, 111, 107, 117, 112] : List UInt8).toArray⟩, .string ⟨([115, 116, 97, 116] : List UInt8).toArray⟩, .string ⟨([114, 101, 97, 100, 100, 105, 114] : List UInt8).toArray⟩, .string ⟨([114, 101, 97, 100, 108, 105, 110, 107] : List UInt8).toArray⟩, .string ⟨([114, 101, 97, 100] : List UInt8).toArray⟩, .string ⟨([110, 97, 109, 101, 115] : List UInt8).toArray⟩, .string ⟨([97, 116, 116, 114] : List UInt8).toArray⟩, .string ⟨([119, 97, 108, 107] : List UInt8).toArray⟩] 9 H (by kernel_rfl) ?_)
    intro g7 w7 H
    refine seg 2 [.op [1, 0, 1, 0, 0] 3, .co [1, 0, 1, 0, 1], .co [1, 1]] [(6, .slice (some ⟨g7, 0, none⟩) 9 9), (8, .pointer (some (⟨g1, 6, none⟩)))] (by kernel_rfl) ?_
    refine st (ldR (some 9) 3 (⟨g1, 6, none⟩) (.int .i64 a.Call.Do) (by kernel_rfl) (by kernel_rfl) (H.cellB 1 rfl rfl) ?_)
    have H := H.toRow (r := rStr) (l := [([] : List UInt8), ([108, 111, 111, 107, 117, 112] : List UInt8), ([115, 116, 97, 116] : List UInt8), ([114, 101, 97, 100, 100, 105, 114] : List UInt8), ([114, 101, 97, 100, 108, 105, 110, 107] : List UInt8), ([114, 101, 97, 100] : List UInt8), ([110, 97, 109, 101, 115] : List UInt8), ([97, 116, 116, 114] : List UInt8), ([119, 97, 108, 107] : List UInt8)]) 0 rfl (Rows.cons (cs := [.string ⟨([] : List UInt8).toArray⟩]) ⟨rfl, (Nat.le_of_ble_eq_true rfl)⟩ (Rows.cons (cs := [.string ⟨([108, 111, 111, 107, 117, 112] : List UInt8).toArray⟩]) ⟨rfl, (Nat.le_of_ble_eq_true rfl)⟩ (Rows.cons (cs := [.string ⟨([115, 116, 97, 116] : List UInt8).toArray⟩]) ⟨rfl, (Nat.le_of_ble_eq_true rfl)⟩ (Rows.cons (cs := [.string ⟨([114, 101, 97, 100, 100, 105, 114] : List UInt8).toArray⟩]) ⟨rfl, (Nat.le_of_ble_eq_true rfl)⟩ (Rows.cons (cs := [.string ⟨([114, 101, 97, 100, 108, 105, 110, 107] : List UInt8).toArray⟩]) ⟨rfl, (Nat.le_of_ble_eq_true rfl)⟩ (Rows.cons (cs := [.string ⟨([114, 101, 97, 100] : List UInt8).toArray⟩]) ⟨rfl, (Nat.le_of_ble_eq_true rfl)⟩ (Rows.cons (cs := [.string ⟨([110, 97, 109, 101, 115] : List UInt8).toArray⟩]) ⟨rfl, (Nat.le_of_ble_eq_true rfl)⟩ (Rows.cons (cs := [.string ⟨([97, 116, 116, 114] : List UInt8).toArray⟩]) ⟨rfl, (Nat.le_of_ble_eq_true rfl)⟩ (Rows.cons (cs := [.string ⟨([119, 97, 108, 107] : List UInt8).toArray⟩]) ⟨rfl, (Nat.le_of_ble_eq_true rfl)⟩ Rows.nil))))))))) (Nat.le_of_ble_eq_true rfl)
    obtain ⟨x_, h_x_, hf⟩ := bindE hf
    obtain ⟨i09, i19, ix9⟩ := idx_some h_x_
    obtain ⟨ad10, _, ea10, ⟨rfl, hl10_0⟩, hc10⟩ := H.rowAt 0 rfl ix9 (by decide)
    refine st (idxS (some 10) 52 9 1 (some ⟨g7, 0, none⟩) ad10 9 9 .i64 a.Call.Do ea10 (by kernel_rfl) (by kernel_rfl) i09 i19 ?_)
    refine st (ldR (some 11) 9 (ad10.add (a.Call.Do.toNat * 1)) (.string ⟨x_.toArray⟩) (by kernel_rfl) (by kernel_rfl) (add0 (hc10 0 _ rfl)) ?_)
    refine seg 2 [.co [1, 0, 1, 0, 1], .co [1, 1]] [(2, .string ⟨x_.toArray⟩)] (by kernel_rfl) ?_
    refine retR [2] [.string ⟨x_.toArray⟩] (by kernel_rfl) (by kernel_rfl) (by kernel_rfl) ?_
    have hret := (Option.some.inj hf)
    subst hret
    exact ⟨_, rfl, rfl, H.scalar, hl10_0⟩
  · rw [hb6]
    refine seg 4 [.op [1, 1, 0] 0, .co [1, 1, 1]] [(1, .pointer (some (⟨g1, 0, none⟩)))] (by kernel_rfl) ?_
    refine st (newS (some 12) (fun g => .slice (some ⟨g, 0, none⟩) 7 7) [.string ⟨([] : List UInt8).toArray⟩, .string ⟨([98, 101, 103, 105, 110] : List UInt8).toArray⟩, .string ⟨([99, 104, 117, 110, 107] : List UInt8).toArray⟩, .string ⟨([102, 105, 110, 105, 115, 104] : List UInt8).toArray⟩, .string ⟨([97, 98, 111, 114, 116] : List UInt8).toArray⟩, .string ⟨([97, 114, 109] : List UInt8).toArray⟩, .string ⟨([114, 101, 98, 111, 111, 116] : List UInt8).toArray⟩] 9 H (by kernel_rfl) ?_)
    intro g11 w11 H
    refine seg 1 [.op [1, 1, 0] 2, .co [1, 1, 1]] [(12, .slice (some ⟨g11, 0, none⟩) 7 7), (13, .pointer (some (⟨g1, 0, none⟩)))] (by kernel_rfl) ?_
    replace H : St w noF m m [blkI g11 [.string ⟨([] : List UInt8).toArray⟩, .string ⟨([98, 101, 103, 105, 110] : List UInt8).toArray⟩, .string ⟨([99, 104, 117, 110, 107] : List UInt8).toArray⟩, .string ⟨([102, 105, 110, 105, 115, 104] : List UInt8).toArray⟩, .string ⟨([97, 98, 111, 114, 116] : List UInt8).toArray⟩, .string ⟨([97, 114, 109] : List UInt8).toArray⟩, .string ⟨([114, 101, 98, 111, 111, 116] : List UInt8).toArray⟩] 9, blkI g1 [.int .i64 a.Do, .int .i64 a.Len, .int .u64 (a.Sum.toNat : Int), .slice A0_3 a.Bytes.length c0_3, .int .i64 a.Crash.After, .slice A0_5 a.Crash.Torn.length c0_5, .int .i64 a.Call.Do, .int .i64 a.Call.Ino, .int .i64 a.Call.A, .int .i64 a.Call.B, .string ⟨a.Call.Name.toArray⟩, .bool a.Call.On] 29] w11 := H
    refine st (ldR (some 14) 3 (⟨g1, 0, none⟩) (.int .i64 a.Do) (by kernel_rfl) (by kernel_rfl) (H.cellB 1 rfl rfl) ?_)
    have H := H.toRow (r := rStr) (l := [([] : List UInt8), ([98, 101, 103, 105, 110] : List UInt8), ([99, 104, 117, 110, 107] : List UInt8), ([102, 105, 110, 105, 115, 104] : List UInt8), ([97, 98, 111, 114, 116] : List UInt8), ([97, 114, 109] : List UInt8), ([114, 101, 98, 111, 111, 116] : List UInt8)]) 0 rfl (Rows.cons (cs := [.string ⟨([] : List UInt8).toArray⟩]) ⟨rfl, (Nat.le_of_ble_eq_true rfl)⟩ (Rows.cons (cs := [.string ⟨([98, 101, 103, 105, 110] : List UInt8).toArray⟩]) ⟨rfl, (Nat.le_of_ble_eq_true rfl)⟩ (Rows.cons (cs := [.string ⟨([99, 104, 117, 110, 107] : List UInt8).toArray⟩]) ⟨rfl, (Nat.le_of_ble_eq_true rfl)⟩ (Rows.cons (cs := [.string ⟨([102, 105, 110, 105, 115, 104] : List UInt8).toArray⟩]) ⟨rfl, (Nat.le_of_ble_eq_true rfl)⟩ (Rows.cons (cs := [.string ⟨([97, 98, 111, 114, 116] : List UInt8).toArray⟩]) ⟨rfl, (Nat.le_of_ble_eq_true rfl)⟩ (Rows.cons (cs := [.string ⟨([97, 114, 109] : List UInt8).toArray⟩]) ⟨rfl, (Nat.le_of_ble_eq_true rfl)⟩ (Rows.cons (cs := [.string ⟨([114, 101, 98, 111, 111, 116] : List UInt8).toArray⟩]) ⟨rfl, (Nat.le_of_ble_eq_true rfl)⟩ Rows.nil))))))) (Nat.le_of_ble_eq_true rfl)
    obtain ⟨x_1, h_x_1, hf⟩ := bindE hf
    obtain ⟨i012, i112, ix12⟩ := idx_some h_x_1
    obtain ⟨ad13, _, ea13, ⟨rfl, hl13_0⟩, hc13⟩ := H.rowAt 0 rfl ix12 (by decide)
    refine st (idxS (some 15) 52 9 1 (some ⟨g11, 0, none⟩) ad13 7 7 .i64 a.Do ea13 (by kernel_rfl) (by kernel_rfl) i012 i112 ?_)
    refine st (ldR (some 16) 9 (ad13.add (a.Do.toNat * 1)) (.string ⟨x_1.toArray⟩) (by kernel_rfl) (by kernel_rfl) (add0 (hc13 0 _ rfl)) ?_)
    refine seg 2 [.co [1, 1, 1]] [(2, .string ⟨x_1.toArray⟩)] (by kernel_rfl) ?_
    refine retR [2] [.string ⟨x_1.toArray⟩] (by kernel_rfl) (by kernel_rfl) (by kernel_rfl) ?_
    have hret := (Option.some.inj hf)
    subst hret
    exact ⟨_, rfl, rfl, H.scalar, hl13_0⟩
theorem ref27_Digits_c {m : Mem} {w : World} (hm : Has m w) (n_ : Int) (base : Int) {r : (List UInt8)} (hf : ref27_Digits n_ base = some r) :
    Calls Tryd.prog 41 #[.int .i64 n_, .int .i64 base] w fun e w' => ∃ v, e = .returned v ∧ v = .string ⟨r.toArray⟩ ∧ Ex w w' ∧ r.length ≤ 9223372036854775807 := by
  unfold ref27_Digits at hf
  have H := St.start0 hm
  refine callsR Tryd.func41 (by kernel_rfl) (by kernel_rfl) ?_
  refine seg 9 [.co [1, 1, 0], .bl 0] [(0, .int .i64 n_), (1, .int .i64 base), (5, .string ⟨([] : List UInt8).toArray⟩)] (by kernel_rfl) ?_
  obtain ⟨nn46, hR46⟩ := loopO_iff.1 hf
  refine loopR 0 (fun (x : Nat × Int × (List UInt8)) => [(0, .int .i64 x.2.1), (1, .int .i64 base), (5, .string ⟨x.2.2.toArray⟩)]) (fun (x : Nat × Int × (List UInt8)) (wl46 : World) => iter (fun s => ref27_Digits_l1 base s.1 s.2) x.1 (x.2.1, x.2.2) = some r ∧ St w noF m m [] wl46 ∧ x.2.2.length ≤ 9223372036854775807) (fun (x : Nat × Int × (List UInt8)) => x.1) (nn46, n_, ([] : List UInt8)) (by kernel_rfl) (by kernel_rfl) (by kernel_rfl) ?_ ?_
  · exact ⟨hR46, H, (Nat.le_of_ble_eq_true rfl)⟩
  rintro ⟨n46, n_1, s_⟩ wl46 ⟨hR46, H, hl47_0⟩
  try dsimp only at hR46
  try dsimp only at H
  try dsimp only at hl47_0
  obtain ⟨nk46, q46, rfl, hb_46, hnx46, hfin46⟩ := iterE hR46
  replace hb_46 : ref27_Digits_l1 base n_1 s_ = some q46 := hb_46
  unfold ref27_Digits_l1 at hb_46
  refine seg 5 [.op [1, 1, 0, 0, 0, 0] 2, .co [1, 1, 0, 0, 0, 1], .bl 1, .le 0, .bl 0] [(0, .int .i64 n_1), (1, .int .i64 base), (5, .string ⟨s_.toArray⟩), (6, .int .i64 n_1), (7, .int .i64 base)] (by kernel_rfl) ?_
  obtain ⟨hc48, hb_46⟩ := chkE hb_46
  refine st (runR (by kernel_rfl : fetch _ _ _ _ _ = some ((some 8), vS (Op.intDiv .rem .i64 n_1 base))) (rem_run .i64 n_1 base (of_decide_eq_true hc48)) ?_)
  obtain ⟨c, h_c, hb_46⟩ := bindE hb_46
  refine st (strS (some 9) 9 ([48, 49, 50, 51, 52, 53, 54, 55, 56, 57, 97, 98, 99, 100, 101, 102] : List UInt8) .i64 (Int.tmod n_1 base) c (by kernel_rfl) (by kernel_rfl) h_c ?_)
  refine st (newS (some 10) (fun g => .slice (some ⟨g, 0, none⟩) 1 1) [.int .u8 (c.toNat : Int)] 5 H (by kernel_rfl) ?_)
  intro g49 w49 H
  have H := H.toRow (r := rU8) (l := [c]) 0 rfl (Rows.u8.2 rfl) (Nat.le_of_ble_eq_true rfl)
  refine st (b2sS (some 11) 23 9 5 (some ⟨g49, 0, none⟩) 1 [c] Tryd.underlying23 Tryd.underlying5 Tryd.underlying9 (by kernel_rfl) (H.rowCs 0 rfl) ?_)
  have hl50 : [c].length ≤ 9223372036854775807 := (Nat.le_trans (H.rowCap 0 rfl).1 (H.rowCap 0 rfl).2)
  refine seg 1 [.op [1, 1, 0, 0, 0, 0] 7, .co [1, 1, 0, 0, 0, 1], .bl 1, .le 0, .bl 0] [(0, .int .i64 n_1), (1, .int .i64 base), (11, .string ⟨([c]).toArray⟩), (12, .string ⟨s_.toArray⟩)] (by kernel_rfl) ?_
  obtain ⟨s_1, h_s_1, hb_46⟩ := bindE hb_46
  refine st (catS (some 13) 9 [c] s_ s_1 (by kernel_rfl) h_s_1 ?_)
  have hl51 : s_1.length ≤ 9223372036854775807 := by obtain ⟨h1, h2⟩ := cat_some h_s_1; rw [h2, List.length_append]; exact h1
  refine seg 6 [.op [1, 1, 0, 0, 0, 1, 0] 2, .co [1, 1, 0, 0, 0, 1, 1], .bl 1, .le 0, .bl 0] [(1, .int .i64 base), (5, .string ⟨s_1.toArray⟩), (14, .int .i64 n_1), (15, .int .i64 base)] (by kernel_rfl) ?_
  obtain ⟨hc52, hb_46⟩ := chkE hb_46
  refine st (runR (by kernel_rfl : fetch _ _ _ _ _ = some ((some 16), vS (Op.intDiv .quo .i64 n_1 base))) (quo_run .i64 n_1 base (of_decide_eq_true hc52)) ?_)
  refine seg 7 [.co [1, 1, 0, 0, 0, 1, 1, 1], .bl 1, .le 0, .bl 0] [(0, .int .i64 (IntKind.i64.wrap (Int.tdiv n_1 base))), (1, .int .i64 base), (5, .string ⟨s_1.toArray⟩), (18, .bool ((IntKind.i64.wrap (Int.tdiv n_1 base)) == 0))] (by kernel_rfl) ?_
  rcases condT hb_46 with ⟨hb53, hb_46⟩ | ⟨hb53, hb_46⟩
  · rw [hb53]
    refine seg 6 [.co [1, 1, 0, 0, 0, 1, 1, 1, 0, 1], .bl 1, .le 0, .bl 0] [(4, .string ⟨s_1.toArray⟩)] (by kernel_rfl) ?_
    refine retR [4] [.string ⟨s_1.toArray⟩] (by kernel_rfl) (by kernel_rfl) (by kernel_rfl) ?_
    have hret := (hfin46 _ (Option.some.inj hb_46).symm)
    subst hret
    exact ⟨_, rfl, rfl, H.scalar, hl51⟩
  · rw [hb53]
    refine seg 3 [.le 0, .bl 0] [(0, .int .i64 (IntKind.i64.wrap (Int.tdiv n_1 base))), (1, .int .i64 base), (5, .string ⟨s_1.toArray⟩)] (by kernel_rfl) ?_
    refine leR (nk46, (IntKind.i64.wrap (Int.tdiv n_1 base)), s_1) (Nat.lt_succ_self _) ⟨hnx46 _ (Option.some.inj hb_46).symm, (St.takeN 0 H), hl51⟩ (by kernel_rfl)
theorem ref31_sixteen_c {m : Mem} {w : World} (hm : Has m w) (n_ : UInt64) {r : (List UInt8)} (hf : ref31_sixteen n_ = some r) :
    Calls Tryd.prog 42 #[.int .u64 (n_.toNat : Int)] w fun e w' => ∃ v, e = .returned v ∧ v = .string ⟨r.toArray⟩ ∧ Ex w w' ∧ r.length ≤ 9223372036854775807 := by
  unfold ref31_sixteen at hf
  have H := St.start0 hm
  refine callsR Tryd.func42 (by kernel_rfl) (by kernel_rfl) ?_
  refine seg 6 [.op [1, 0] 0, .co [1, 1]] [(0, .int .u64 (n_.toNat : Int))] (by kernel_rfl) ?_
  refine st (newS (some 3) (fun g => .pointer (some ⟨g, 0, none⟩)) [.int .u8 0, .int .u8 0, .int .u8 0, .int .u8 0, .int .u8 0, .int .u8 0, .int .u8 0, .int .u8 0, .int .u8 0, .int .u8 0, .int .u8 0, .int .u8 0, .int .u8 0, .int .u8 0, .int .u8 0, .int .u8 0] 90 H (by kernel_rfl) ?_)
  intro g1 w1 H
  replace H := H.toArr 0 fU8 (List.replicate 16 (0 : UInt8)) rfl (by kernel_rfl)
  refine seg 6 [.co [1, 1, 0, 1], .co [1, 1, 1]] [(0, .int .u64 (n_.toNat : Int)), (3, .pointer (some (⟨g1, 0, none⟩))), (4, .int .i64 15)] (by kernel_rfl) ?_
  obtain ⟨y50, hp50, hf⟩ := bindE hf
  refine joinR 0 (fun (x : (List UInt8)) => [(3, .pointer (some (⟨g1, 0, none⟩)))]) (fun (x : (List UInt8)) (wj50 : World) => y50 = x ∧ St w noF m m [blkI g1 (x.map fU8) 90] wj50) (by kernel_rfl) ?_ ?_
  · refine seg 1 [.co [1, 1, 0, 1, 0], .bl 0, .le 0, .co [1, 1, 1]] [(0, .int .u64 (n_.toNat : Int)), (3, .pointer (some (⟨g1, 0, none⟩))), (4, .int .i64 15)] (by kernel_rfl) ?_
    obtain ⟨nn66, hR66⟩ := loopO_iff.1 hp50
    refine loopR 1 (fun (x : Nat × UInt64 × (List UInt8) × Int) => [(0, .int .u64 (x.2.1.toNat : Int)), (3, .pointer (some (⟨g1, 0, none⟩))), (4, .int .i64 x.2.2.2)]) (fun (x : Nat × UInt64 × (List UInt8) × Int) (wl66 : World) => iter (fun s => ref31_sixteen_l1 s.1 s.2.1 s.2.2) x.1 (x.2.1, x.2.2.1, x.2.2.2) = some y50 ∧ St w noF m m [blkI g1 (x.2.2.1.map fU8) 90] wl66) (fun (x : Nat × UInt64 × (List UInt8) × Int) => x.1) (nn66, n_, (List.replicate 16 (0 : UInt8)), 15) (by kernel_rfl) (by kernel_rfl) (by kernel_rfl) ?_ ?_
    · exact ⟨hR66, H⟩
    rintro ⟨n66, n_1, b, i⟩ wl66 ⟨hR66, H⟩
    try dsimp only at hR66
    try dsimp only at H
    obtain ⟨nk66, q66, rfl, hb_66, hnx66, hfin66⟩ := iterE hR66
    replace hb_66 : ref31_sixteen_l1 n_1 b i = some q66 := hb_66
    unfold ref31_sixteen_l1 at hb_66
    refine seg 6 [.co [1, 1, 0, 1, 0, 0, 0, 1], .co [1, 1, 0, 1, 0, 0, 1], .le 1, .bl 0, .le 0, .co [1, 1, 1]] [(0, .int .u64 (n_1.toNat : Int)), (3, .pointer (some (⟨g1, 0, none⟩))), (4, .int .i64 i), (6, .bool (decide (i ≥ 0)))] (by kernel_rfl) ?_
    rcases condT hb_66 with ⟨hb68, hb_66⟩ | ⟨hb68, hb_66⟩
    · rw [hb68]
      have p68 := of_decide_eq_true hb68
      refine seg 9 [.op [1, 1, 0, 1, 0, 0, 1, 0, 0, 0] 3, .co [1, 1, 0, 1, 0, 0, 1, 0, 0, 1], .bl 1, .co [1, 1, 0, 1, 0, 0, 1, 1], .le 1, .bl 0, .le 0, .co [1, 1, 1]] [(0, .int .u64 (n_1.toNat : Int)), (3, .pointer (some (⟨g1, 0, none⟩))), (4, .int .i64 i), (9, .int .i64 i), (11, .int .u64 (Int.tmod (n_1.toNat : Int) 16))] (by kernel_rfl) ?_
      rw [q64_rem n_1 (16 : UInt64) (n_1.toNat : Int) 16 (by rfl) (by rfl)]
      obtain ⟨c, h_c, hb_66⟩ := bindE hb_66
      refine st (strS (some 12) 9 ([48, 49, 50, 51, 52, 53, 54, 55, 56, 57, 97, 98, 99, 100, 101, 102] : List UInt8) .u64 ((n_1 % (16 : UInt64)).toNat : Int) c (by kernel_rfl) (by kernel_rfl) h_c ?_)
      obtain ⟨x_, h_x_, hb_66⟩ := bindE hb_66
      obtain ⟨hc69, hb_66⟩ := chkE hb_66
      obtain ⟨i070, i170, ix70⟩ := idx_some h_x_
      refine st (idxAS (some 13) 90 16 5 g1 .i64 i (by kernel_rfl) (by kernel_rfl) i070 (of_decide_eq_true hc69) ?_)
      refine st (stAS fU8 none 5 0 g1 i.toNat c b 90 H rfl (by kernel_rfl) (by kernel_rfl) rfl (List.getElem?_eq_some_iff.1 ix70).1 ?_)
      intro w71 H
      refine seg 12 [.le 1, .bl 0, .le 0, .co [1, 1, 1]] [(0, .int .u64 (IntKind.u64.wrap (Int.tdiv (n_1.toNat : Int) 16))), (3, .pointer (some (⟨g1, 0, none⟩))), (4, .int .i64 (IntKind.i64.wrap (i - 1)))] (by kernel_rfl) ?_
      rw [q64_quo n_1 (16 : UInt64) (n_1.toNat : Int) 16 (by rfl) (by rfl)]
      refine leR (nk66, (n_1 / (16 : UInt64)), (b.set i.toNat c), (IntKind.i64.wrap (i - 1))) (Nat.lt_succ_self _) ⟨hnx66 _ (Option.some.inj hb_66).symm, H⟩ (by kernel_rfl)
    · rw [hb68]
      have p68 := of_decide_eq_false hb68
      refine seg 2 [.le 0, .co [1, 1, 1]] [(3, .pointer (some (⟨g1, 0, none⟩)))] (by kernel_rfl) ?_
      refine leR_up (k' := []) (by rfl) ?_
      refine leJ (b) ⟨(hfin66 _ (Option.some.inj hb_66).symm).symm, H⟩ (by kernel_rfl)
  rintro b wj50 ⟨hy50, H⟩
  rw [hy50] at hf
  refine seg 2 [.op [1, 1, 1, 0] 0, .co [1, 1, 1, 1]] [(3, .pointer (some (⟨g1, 0, none⟩)))] (by kernel_rfl) ?_
  replace H : St w noF m m [blkI g1 (b.map fU8) 90] wj50 := H
  obtain ⟨hc73, hf⟩ := chkE hf
  obtain ⟨mf72, hsub72, hbf72, H⟩ := H.fixB 0 rfl
  have hN72 := of_decide_eq_true hc73
  have hA72 := SlI.ofArr hbf72 (by rw [hN72]; decide)
  obtain ⟨y_, h_y_, hf⟩ := bindE hf
  refine st (sliAS (some 16) 90 16 5 ⟨g1, 0, none⟩ b y_ none none 0 (b.length : Int) hA72 hN72 (by kernel_rfl) (by kernel_rfl) (.inl ⟨rfl, rfl⟩) (.inl ⟨rfl, rfl⟩) h_y_ ?_)
  intro A74 c74 hs74
  refine st (b2sS (some 17) 23 9 5 A74 c74 y_ Tryd.underlying23 Tryd.underlying5 Tryd.underlying9 (by kernel_rfl) (hs74.bytes.cs H.has) ?_)
  have hl75 : y_.length ≤ 9223372036854775807 := hs74.bound
  refine seg 2 [.co [1, 1, 1, 1]] [(2, .string ⟨y_.toArray⟩)] (by kernel_rfl) ?_
  refine retR [2] [.string ⟨y_.toArray⟩] (by kernel_rfl) (by kernel_rfl) (by kernel_rfl) ?_
  have hret := (Option.some.inj hf)
  subst hret
  exact ⟨_, rfl, rfl, H.scalar, hl75⟩
theorem ref31_hex_c {m : Mem} {w : World} (hm : Has m w) (x_ : (List UInt8)) (A0_0 : Option Addr) (c0_0 : Nat) (s0_0 : SlI rU8 m A0_0 c0_0 x_) {r : (List UInt8)} (hf : ref31_hex x_ = some r) :
    Calls Tryd.prog 43 #[.slice A0_0 x_.length c0_0] w fun e w' => ∃ v, e = .returned v ∧ v = .string ⟨r.toArray⟩ ∧ Ex w w' ∧ r.length ≤ 9223372036854775807 := by
  unfold ref31_hex at hf
  have H := St.start0 hm
  refine callsR Tryd.func43 (by kernel_rfl) (by kernel_rfl) ?_
  refine seg 11 [.co [1, 0, 1], .co [1, 1]] [(0, .slice A0_0 x_.length c0_0), (7, .bool ((x_.length : Int) == 0))] (by kernel_rfl) ?_
  rcases condT hf with ⟨hb2, hf⟩ | ⟨hb2, hf⟩
  · rw [hb2]
    refine seg 5 [.co [1, 0, 1, 0, 1], .co [1, 1]] [(2, .string ⟨([45] : List UInt8).toArray⟩)] (by kernel_rfl) ?_
    refine retR [2] [.string ⟨([45] : List UInt8).toArray⟩] (by kernel_rfl) (by kernel_rfl) (by kernel_rfl) ?_
    obtain rfl : ([45] : List UInt8) = r := (Option.some.inj hf)
    exact ⟨_, rfl, rfl, H.scalar, (Nat.le_of_ble_eq_true rfl)⟩
  · rw [hb2]
    refine seg 11 [.co [1, 1, 1, 0, 1], .co [1, 1, 1, 1]] [(0, .slice A0_0 x_.length c0_0), (3, .slice none 0 0), (4, .int .i64 0)] (by kernel_rfl) ?_
    obtain ⟨y51, hp51, hf⟩ := bindE hf
    refine joinR 0 (fun (x : (List UInt8) × Option Addr × Nat) => [(3, .slice (x.2.1) x.1.length (x.2.2))]) (fun (x : (List UInt8) × Option Addr × Nat) (wj51 : World) => y51 = x.1 ∧ St w noF m m [rowI rU8 5 (x.2.1) (x.2.2) x.1] wj51) (by kernel_rfl) ?_ ?_
    · refine seg 1 [.co [1, 1, 1, 0, 1, 0], .bl 0, .le 0, .co [1, 1, 1, 1]] [(0, .slice A0_0 x_.length c0_0), (3, .slice none 0 0), (4, .int .i64 0)] (by kernel_rfl) ?_
      have H := H.nilR rU8 5
      obtain ⟨nn66, hR66⟩ := loopO_iff.1 hp51
      refine loopR 1 (fun (x : Nat × (List UInt8) × Nat × Option Addr × Nat) => [(0, .slice A0_0 x_.length c0_0), (3, .slice (x.2.2.2.1) x.2.1.length (x.2.2.2.2)), (4, .int .i64 (x.2.2.1 : Int))]) (fun (x : Nat × (List UInt8) × Nat × Option Addr × Nat) (wl66 : World) => iter (fun s => ref31_hex_l1 x_ s.1 s.2) x.1 (x.2.1, x.2.2.1) = some y51 ∧ St w noF m m [rowI rU8 5 (x.2.2.2.1) (x.2.2.2.2) x.2.1] wl66) (fun (x : Nat × (List UInt8) × Nat × Option Addr × Nat) => x.1) (nn66, [], 0, none, 0) (by kernel_rfl) (by kernel_rfl) (by kernel_rfl) ?_ ?_
      · exact ⟨hR66, H⟩
      rintro ⟨n66, b, i, A_1_67, c_2_67⟩ wl66 ⟨hR66, H⟩
      try dsimp only at hR66
      try dsimp only at H
      obtain ⟨nk66, q66, rfl, hb_66, hnx66, hfin66⟩ := iterE hR66
      replace hb_66 : ref31_hex_l1 x_ b i = some q66 := hb_66
      unfold ref31_hex_l1 at hb_66
      refine seg 8 [.co [1, 1, 1, 0, 1, 0, 0, 0, 1], .co [1, 1, 1, 0, 1, 0, 0, 1], .le 1, .bl 0, .le 0, .co [1, 1, 1, 1]] [(0, .slice A0_0 x_.length c0_0), (3, .slice A_1_67 b.length c_2_67), (4, .int .i64 (i : Int)), (11, .bool (decide ((i : Int) < (x_.length : Int))))] (by kernel_rfl) ?_
      rcases condT hb_66 with ⟨hb68, hb_66⟩ | ⟨hb68, hb_66⟩
      · rw [hb68]
        have p68 := of_decide_eq_true hb68
        refine seg 4 [.co [1, 1, 1, 0, 1, 0, 0, 1, 0, 0], .bl 1, .co [1, 1, 1, 0, 1, 0, 0, 1, 1], .le 1, .bl 0, .le 0, .co [1, 1, 1, 1]] [(0, .slice A0_0 x_.length c0_0), (3, .slice A_1_67 b.length c_2_67), (4, .int .i64 (i : Int))] (by kernel_rfl) ?_
        obtain ⟨x_1, h_x_1, hb_66⟩ := bindE hb_66
        obtain ⟨c, h_c, hb_66⟩ := bindE hb_66
        obtain ⟨c1, h_c1, hb_66⟩ := bindE hb_66
        obtain ⟨b1, h_b1, hb_66⟩ := bindE hb_66
        have hst : statB (bodyOf Tryd.f43) [1, 1, 1, 0, 1, 0, 0, 1, 0, 0] = true := by kernel_rfl
        refine drawS (Has m) H (by kernel_rfl) (by kernel_rfl) ?_
        intro w73 H
        refine segD2 hst [0, 1, 2, 7, 8] [0, 1, 2, 7, 8] [(0, .slice A0_0 x_.length c0_0), (4, .int .i64 (i : Int)), (14, .slice A_1_67 b.length c_2_67), (15, .slice A0_0 x_.length c0_0), (16, .int .i64 (i : Int)), (21, .slice A0_0 x_.length c0_0), (22, .int .i64 (i : Int))] (by kernel_rfl) ?_
        obtain ⟨ad74, _, ea74, rfl, hc74⟩ := s0_0.at_ h_x_1 (by decide)
        refine takeD2 (i := 3) (d := (some 17)) (s := vS (Instr.indexAt 23 (.slice A0_0 x_.length c0_0) (.int .i64 (i : Int)))) (v := .pointer (some (ad74.add (i * 1)))) hst (by kernel_rfl) (by kernel_rfl) (fun w' hw' => idx_run 23 5 1 _ ad74 _ _ _ _ _ ea74 (by kernel_rfl) (by omega) (by have := (List.getElem?_eq_some_iff.1 h_x_1).1; omega) rfl) ?_
        refine takeD2 (i := 4) (d := (some 18)) (s := vS (Instr.loadAt 5 (.pointer (some (ad74.add (i * 1)))))) (v := (.int .u8 (x_1.toNat : Int))) hst (by kernel_rfl) (by kernel_rfl) (fun w' hw' => ld_run _ _ _ (by kernel_rfl) (hw'.cell (mc0 (hc74 0 _ rfl)))) ?_
        refine segD2 hst [5] [0, 1, 2, 7, 8, 3, 4, 5] [(0, .slice A0_0 x_.length c0_0), (4, .int .i64 (i : Int)), (14, .slice A_1_67 b.length c_2_67), (19, .int .u8 (IntKind.u8.wrap (Int.tdiv (x_1.toNat : Int) 16))), (21, .slice A0_0 x_.length c0_0), (22, .int .i64 (i : Int))] (by kernel_rfl) ?_
        rw [q8_quo x_1 (16 : UInt8) (x_1.toNat : Int) 16 (by rfl) (by rfl)]
        refine takeD2 (i := 6) (d := (some 20)) (s := vS (Instr.index 9 (.string ⟨([48, 49, 50, 51, 52, 53, 54, 55, 56, 57, 97, 98, 99, 100, 101, 102] : List UInt8).toArray⟩) (.int .u8 ((x_1 / (16 : UInt8)).toNat : Int)))) (v := .int .u8 (c.toNat : Int)) hst (by kernel_rfl) (by kernel_rfl) (fun w' hw' => str_idx_run _ _ _ _ _ (by kernel_rfl) h_c) ?_
        replace H : St w noF m m [rowI rU8 5 A_1_67 c_2_67 b] w73 := H
        refine stD2 (i := 9) (by kernel_rfl) H.has (idxS (some 23) 23 5 1 A0_0 ad74 x_.length c0_0 .i64 (i : Int) ea74 (by kernel_rfl) (by kernel_rfl) (by omega) (by have := (List.getElem?_eq_some_iff.1 h_x_1).1; omega) ?_)
        refine stD2 (i := 10) (by kernel_rfl) H.has (ldR (some 24) 5 (ad74.add (i * 1)) (.int .u8 (x_1.toNat : Int)) (by kernel_rfl) (by kernel_rfl) (H.cellI (mc0 (hc74 0 _ rfl))) ?_)
        refine segD2 hst [11] [0, 1, 2, 7, 8, 3, 4, 5, 6, 9, 10, 11] [(0, .slice A0_0 x_.length c0_0), (4, .int .i64 (i : Int)), (14, .slice A_1_67 b.length c_2_67), (20, .int .u8 (c.toNat : Int)), (25, .int .u8 (Int.tmod (x_1.toNat : Int) 16))] (by kernel_rfl) ?_
        rw [q8_rem x_1 (16 : UInt8) (x_1.toNat : Int) 16 (by rfl) (by rfl)]
        refine stD2 (i := 12) (by kernel_rfl) H.has (strS (some 26) 9 ([48, 49, 50, 51, 52, 53, 54, 55, 56, 57, 97, 98, 99, 100, 101, 102] : List UInt8) .u8 ((x_1 % (16 : UInt8)).toNat : Int) c1 (by kernel_rfl) (by kernel_rfl) h_c1 ?_)
        refine stD2 (i := 13) (by kernel_rfl) H.has (newS (some 27) (fun g => .slice (some ⟨g, 0, none⟩) 2 2) [.int .u8 (c.toNat : Int), .int .u8 (c1.toNat : Int)] 5 H (by kernel_rfl) ?_)
        intro g75 w75 H
        refine stD2 (i := 14) (by kernel_rfl) H.has (appS (r := rU8) (some 28) 23 5 1 (.int .u8 0) 23 1 A_1_67 (some ⟨g75, 0, none⟩) c_2_67 2 2 b [c, c1] b1 _ H rfl ⟨Tryd.underlying23, by kernel_rfl⟩ rfl (by decide) (by kernel_rfl) (Cs.of_blk (H.blk 0 rfl)) (Rows.u8.2 rfl) rfl h_b1 (by decide) (by decide) ?_)
        intro A76 c76 w76 H
        replace H := H.drop 0 rfl
        refine segD2 hst [15] [0, 1, 2, 7, 8, 3, 4, 5, 6, 9, 10, 11, 12, 13, 14, 15] [(0, .slice A0_0 x_.length c0_0), (3, .slice A76 b1.length c76), (4, .int .i64 (i : Int))] (by kernel_rfl) ?_
        refine endD2 (by kernel_rfl) H.has ?_
        refine seg 6 [.le 1, .bl 0, .le 0, .co [1, 1, 1, 1]] [(0, .slice A0_0 x_.length c0_0), (3, .slice A76 b1.length c76), (4, .int .i64 (IntKind.i64.wrap ((i : Int) + 1)))] (by kernel_rfl) ?_
        have := s0_0.bound
        rw [show IntKind.i64.wrap ((i : Int) + 1) = ((i : Int) + 1) from w64 (by omega)]
        refine leR (nk66, b1, (i + 1), A76, c76) (Nat.lt_succ_self _) ⟨hnx66 _ (Option.some.inj hb_66).symm, H⟩ (by kernel_rfl)
      · rw [hb68]
        have p68 := of_decide_eq_false hb68
        refine seg 2 [.le 0, .co [1, 1, 1, 1]] [(3, .slice A_1_67 b.length c_2_67)] (by kernel_rfl) ?_
        refine leR_up (k' := []) (by rfl) ?_
        refine leJ (b, A_1_67, c_2_67) ⟨(hfin66 _ (Option.some.inj hb_66).symm).symm, H⟩ (by kernel_rfl)
    rintro ⟨b, A_1_52, c_2_52⟩ wj51 ⟨hy51, H⟩
    try dsimp only at hy51
    try dsimp only at H
    rw [hy51] at hf
    refine seg 3 [.op [1, 1, 1, 1, 0] 1, .co [1, 1, 1, 1, 1]] [(29, .slice A_1_52 b.length c_2_52)] (by kernel_rfl) ?_
    refine st (b2sS (some 30) 23 9 5 A_1_52 c_2_52 b Tryd.underlying23 Tryd.underlying5 Tryd.underlying9 (by kernel_rfl) (H.rowCs 0 rfl) ?_)
    have hl77 : b.length ≤ 9223372036854775807 := (Nat.le_trans (H.rowCap 0 rfl).1 (H.rowCap 0 rfl).2)
    refine seg 2 [.co [1, 1, 1, 1, 1]] [(2, .string ⟨b.toArray⟩)] (by kernel_rfl) ?_
    refine retR [2] [.string ⟨b.toArray⟩] (by kernel_rfl) (by kernel_rfl) (by kernel_rfl) ?_
    have hret := (Option.some.inj hf)
    subst hret
    exact ⟨_, rfl, rfl, H.scalar, hl77⟩
theorem ref27_plain_c {m : Mem} {w : World} (hm : Has m w) (c : UInt8) :
    Calls Tryd.prog 61 #[.int .u8 (c.toNat : Int)] w fun e w' => ∃ v, e = .returned v ∧ v = .bool (ref27_plain c) ∧ Ex w w' := by
  generalize hf : ref27_plain c = r
  unfold ref27_plain at hf
  have H := St.start0 hm
  refine callsR Tryd.func61 (by kernel_rfl) (by kernel_rfl) ?_
  refine seg 9 [.op [1, 0] 3, .co [1, 1]] [(0, .int .u8 (c.toNat : Int)), (5, .bool (decide ((c.toNat : Int) ≥ 33)))] (by kernel_rfl) ?_
  rcases condT hf with ⟨hb3, hf⟩ | ⟨hb3, hf⟩
  · rw [hb3]
    have p3 := of_decide_eq_true hb3
    refine seg 4 [.op [1, 0] 7, .co [1, 1]] [(0, .int .u8 (c.toNat : Int)), (9, .bool (decide ((c.toNat : Int) ≤ 126)))] (by kernel_rfl) ?_
    rcases condT hf with ⟨hb4, hf⟩ | ⟨hb4, hf⟩
    · rw [hb4]
      have p4 := of_decide_eq_true hb4
      refine seg 5 [.co [1, 1]] [(2, .bool ((c.toNat : Int) != 37))] (by kernel_rfl) ?_
      refine retR [2] [.bool ((c.toNat : Int) != 37)] (by kernel_rfl) (by kernel_rfl) (by kernel_rfl) ?_
      obtain rfl : ((c.toNat : Int) != 37) = r := hf
      exact ⟨_, rfl, rfl, H.scalar⟩
    · rw [hb4]
      have p4 := of_decide_eq_false hb4
      refine seg 5 [.co [1, 1]] [(2, .bool false)] (by kernel_rfl) ?_
      refine retR [2] [.bool false] (by kernel_rfl) (by kernel_rfl) (by kernel_rfl) ?_
      have hret := hf
      subst hret
      exact ⟨_, rfl, rfl, H.scalar⟩
  · rw [hb3]
    have p3 := of_decide_eq_false hb3
    refine seg 9 [.co [1, 1]] [(2, .bool false)] (by kernel_rfl) ?_
    refine retR [2] [.bool false] (by kernel_rfl) (by kernel_rfl) (by kernel_rfl) ?_
    have hret := hf
    subst hret
    exact ⟨_, rfl, rfl, H.scalar⟩
theorem ref27_two_c {m : Mem} {w : World} (hm : Has m w) (c : UInt8) {r : (List UInt8)} (hf : ref27_two c = some r) :
    Calls Tryd.prog 62 #[.int .u8 (c.toNat : Int)] w fun e w' => ∃ v, e = .returned v ∧ v = .string ⟨r.toArray⟩ ∧ Ex w w' ∧ r.length ≤ 9223372036854775807 := by
  unfold ref27_two at hf
  have H := St.start0 hm
  refine callsR Tryd.func62 (by kernel_rfl) (by kernel_rfl) ?_
  refine seg 5 [.co [1, 0], .co [1, 1]] [(0, .int .u8 (c.toNat : Int))] (by kernel_rfl) ?_
  obtain ⟨c1, h_c1, hf⟩ := bindE hf
  obtain ⟨c2, h_c2, hf⟩ := bindE hf
  have hst : statB (bodyOf Tryd.f62) [1, 0] = true := by kernel_rfl
  refine drawS (Has m) H (by kernel_rfl) (by kernel_rfl) ?_
  intro w3 H
  refine segD2 hst [0, 1] [0, 1] [(0, .int .u8 (c.toNat : Int)), (4, .int .u8 (IntKind.u8.wrap (Int.tdiv (c.toNat : Int) 16)))] (by kernel_rfl) ?_
  rw [q8_quo c (16 : UInt8) (c.toNat : Int) 16 (by rfl) (by rfl)]
  refine segD2 hst [3, 4] [0, 1, 3, 4] [(4, .int .u8 ((c / (16 : UInt8)).toNat : Int)), (7, .int .u8 (Int.tmod (c.toNat : Int) 16))] (by kernel_rfl) ?_
  rw [q8_rem c (16 : UInt8) (c.toNat : Int) 16 (by rfl) (by rfl)]
  refine takeD2 (i := 2) (d := (some 5)) (s := vS (Instr.index 9 (.string ⟨([48, 49, 50, 51, 52, 53, 54, 55, 56, 57, 97, 98, 99, 100, 101, 102] : List UInt8).toArray⟩) (.int .u8 ((c / (16 : UInt8)).toNat : Int)))) (v := .int .u8 (c1.toNat : Int)) hst (by kernel_rfl) (by kernel_rfl) (fun w' hw' => str_idx_run _ _ _ _ _ (by kernel_rfl) h_c1) ?_
  refine stD2 (i := 5) (by kernel_rfl) H.has (strS (some 8) 9 ([48, 49, 50, 51, 52, 53, 54, 55, 56, 57, 97, 98, 99, 100, 101, 102] : List UInt8) .u8 ((c % (16 : UInt8)).toNat : Int) c2 (by kernel_rfl) (by kernel_rfl) h_c2 ?_)
  refine stD2 (i := 6) (by kernel_rfl) H.has (newS (some 9) (fun g => .slice (some ⟨g, 0, none⟩) 2 2) [.int .u8 (c1.toNat : Int), .int .u8 (c2.toNat : Int)] 5 H (by kernel_rfl) ?_)
  intro g4 w4 H
  have H := H.toRow (r := rU8) (l := [c1, c2]) 0 rfl (Rows.u8.2 rfl) (Nat.le_of_ble_eq_true rfl)
  refine stD2 (i := 7) (by kernel_rfl) H.has (b2sS (some 10) 23 9 5 (some ⟨g4, 0, none⟩) 2 [c1, c2] Tryd.underlying23 Tryd.underlying5 Tryd.underlying9 (by kernel_rfl) (H.rowCs 0 rfl) ?_)
  have hl5 : [c1, c2].length ≤ 9223372036854775807 := (Nat.le_trans (H.rowCap 0 rfl).1 (H.rowCap 0 rfl).2)
  refine segD2 hst [8] [0, 1, 3, 4, 2, 5, 6, 7, 8] [(2, .string ⟨([c1, c2]).toArray⟩)] (by kernel_rfl) ?_
  refine endD2 (by kernel_rfl) H.has ?_
  refine retR [2] [.string ⟨([c1, c2]).toArray⟩] (by kernel_rfl) (by kernel_rfl) (by kernel_rfl) ?_
  obtain rfl : [c1, c2] = r := (Option.some.inj hf)
  exact ⟨_, rfl, rfl, H.scalar, hl5⟩
theorem ref27_Quote_c {m : Mem} {w : World} (hm : Has m w) (s_ : (List UInt8)) (l0_0 : s_.length ≤ 9223372036854775807) {r : (List UInt8)} (hf : ref27_Quote s_ = some r) :
    Calls Tryd.prog 44 #[.string ⟨s_.toArray⟩] w fun e w' => ∃ v, e = .returned v ∧ v = .string ⟨r.toArray⟩ ∧ Ex w w' ∧ r.length ≤ 9223372036854775807 := by
  unfold ref27_Quote at hf
  have H := St.start0 hm
  refine callsR Tryd.func44 (by kernel_rfl) (by kernel_rfl) ?_
  refine seg 10 [.co [1, 0, 1], .co [1, 1]] [(0, .string ⟨s_.toArray⟩), (6, .bool ((ByteArray.toList ⟨s_.toArray⟩) == (ByteArray.toList ⟨([] : List UInt8).toArray⟩)))] (by kernel_rfl) ?_
  rw [seq_raw s_ ([] : List UInt8)]
  rcases condT hf with ⟨hb2, hf⟩ | ⟨hb2, hf⟩
  · rw [hb2]
    refine seg 5 [.co [1, 0, 1, 0, 1], .co [1, 1]] [(2, .string ⟨([37] : List UInt8).toArray⟩)] (by kernel_rfl) ?_
    refine retR [2] [.string ⟨([37] : List UInt8).toArray⟩] (by kernel_rfl) (by kernel_rfl) (by kernel_rfl) ?_
    obtain rfl : ([37] : List UInt8) = r := (Option.some.inj hf)
    exact ⟨_, rfl, rfl, H.scalar, (Nat.le_of_ble_eq_true rfl)⟩
  · rw [hb2]
    refine seg 11 [.co [1, 1, 1, 0, 1], .co [1, 1, 1, 1]] [(0, .string ⟨s_.toArray⟩), (3, .slice none 0 0), (4, .int .i64 0)] (by kernel_rfl) ?_
    obtain ⟨y83, hp83, hf⟩ := bindE hf
    refine joinR 0 (fun (x : (List UInt8) × Option Addr × Nat) => [(3, .slice (x.2.1) x.1.length (x.2.2))]) (fun (x : (List UInt8) × Option Addr × Nat) (wj83 : World) => y83 = x.1 ∧ St w noF m m [rowI rU8 5 (x.2.1) (x.2.2) x.1] wj83) (by kernel_rfl) ?_ ?_
    · refine seg 1 [.co [1, 1, 1, 0, 1, 0], .bl 0, .le 0, .co [1, 1, 1, 1]] [(0, .string ⟨s_.toArray⟩), (3, .slice none 0 0), (4, .int .i64 0)] (by kernel_rfl) ?_
      have H := H.nilR rU8 5
      obtain ⟨nn105, hR105⟩ := loopO_iff.1 hp83
      refine loopR 1 (fun (x : Nat × (List UInt8) × Nat × Option Addr × Nat) => [(0, .string ⟨s_.toArray⟩), (3, .slice (x.2.2.2.1) x.2.1.length (x.2.2.2.2)), (4, .int .i64 (x.2.2.1 : Int))]) (fun (x : Nat × (List UInt8) × Nat × Option Addr × Nat) (wl105 : World) => iter (fun s => ref27_Quote_l1 s_ s.1 s.2) x.1 (x.2.1, x.2.2.1) = some y83 ∧ St w noF m m [rowI rU8 5 (x.2.2.2.1) (x.2.2.2.2) x.2.1] wl105) (fun (x : Nat × (List UInt8) × Nat × Option Addr × Nat) => x.1) (nn105, [], 0, none, 0) (by kernel_rfl) (by kernel_rfl) (by kernel_rfl) ?_ ?_
      · exact ⟨hR105, H⟩
      rintro ⟨n105, b, i, A_1_106, c_2_106⟩ wl105 ⟨hR105, H⟩
      try dsimp only at hR105
      try dsimp only at H
      obtain ⟨nk105, q105, rfl, hb_105, hnx105, hfin105⟩ := iterE hR105
      replace hb_105 : ref27_Quote_l1 s_ b i = some q105 := hb_105
      unfold ref27_Quote_l1 at hb_105
      refine seg 8 [.co [1, 1, 1, 0, 1, 0, 0, 0, 1], .co [1, 1, 1, 0, 1, 0, 0, 1], .le 1, .bl 0, .le 0, .co [1, 1, 1, 1]] [(0, .string ⟨s_.toArray⟩), (3, .slice A_1_106 b.length c_2_106), (4, .int .i64 (i : Int)), (10, .bool (decide ((i : Int) < (s_.length : Int))))] (by kernel_rfl) ?_
      rcases condT hb_105 with ⟨hb107, hb_105⟩ | ⟨hb107, hb_105⟩
      · rw [hb107]
        have p107 := of_decide_eq_true hb107
        refine seg 8 [.op [1, 1, 1, 0, 1, 0, 0, 1, 0, 0, 0] 2, .co [1, 1, 1, 0, 1, 0, 0, 1, 0, 0, 1], .bl 1, .co [1, 1, 1, 0, 1, 0, 0, 1, 1], .le 1, .bl 0, .le 0, .co [1, 1, 1, 1]] [(0, .string ⟨s_.toArray⟩), (3, .slice A_1_106 b.length c_2_106), (4, .int .i64 (i : Int)), (13, .string ⟨s_.toArray⟩), (14, .int .i64 (i : Int))] (by kernel_rfl) ?_
        replace H : St w noF m m [rowI rU8 5 A_1_106 c_2_106 b] wl105 := H
        obtain ⟨c, h_c, hb_105⟩ := bindE hb_105
        refine st (strS (some 15) 9 s_ .i64 (i : Int) c (by kernel_rfl) (by kernel_rfl) h_c ?_)
        refine st (callR (some 16) 61 #[.int .u8 (c.toNat : Int)] Tryd.call61 (ref27_plain_c H.has c) (by kernel_rfl) ?_)
        rintro _ w108 ⟨rfl, hx108⟩
        replace H := H.ex hx108
        refine seg 1 [.co [1, 1, 1, 0, 1, 0, 0, 1, 0, 0, 1], .bl 1, .co [1, 1, 1, 0, 1, 0, 0, 1, 1], .le 1, .bl 0, .le 0, .co [1, 1, 1, 1]] [(0, .string ⟨s_.toArray⟩), (3, .slice A_1_106 b.length c_2_106), (4, .int .i64 (i : Int)), (16, .bool (ref27_plain c))] (by kernel_rfl) ?_
        rcases condT hb_105 with ⟨hb109, hb_105⟩ | ⟨hb109, hb_105⟩
        · rw [hb109]
          refine seg 5 [.op [1, 1, 1, 0, 1, 0, 0, 1, 0, 0, 1, 0] 3, .bl 1, .co [1, 1, 1, 0, 1, 0, 0, 1, 1], .le 1, .bl 0, .le 0, .co [1, 1, 1, 1]] [(0, .string ⟨s_.toArray⟩), (4, .int .i64 (i : Int)), (17, .slice A_1_106 b.length c_2_106), (18, .string ⟨s_.toArray⟩), (19, .int .i64 (i : Int))] (by kernel_rfl) ?_
          refine st (strS (some 20) 9 s_ .i64 (i : Int) c (by kernel_rfl) (by kernel_rfl) h_c ?_)
          refine st (newS (some 21) (fun g => .slice (some ⟨g, 0, none⟩) 1 1) [.int .u8 (c.toNat : Int)] 5 H (by kernel_rfl) ?_)
          intro g110 w110 H
          obtain ⟨b1, h_b1, hb_105⟩ := bindE hb_105
          refine st (appS (r := rU8) (some 22) 23 5 1 (.int .u8 0) 23 1 A_1_106 (some ⟨g110, 0, none⟩) c_2_106 1 1 b [c] b1 _ H rfl ⟨Tryd.underlying23, by kernel_rfl⟩ rfl (by decide) (by kernel_rfl) (Cs.of_blk (H.blk 0 rfl)) (Rows.u8.2 rfl) rfl h_b1 (by decide) (by decide) ?_)
          intro A111 c111 w111 H
          replace H := H.drop 0 rfl
          refine seg 8 [.le 1, .bl 0, .le 0, .co [1, 1, 1, 1]] [(0, .string ⟨s_.toArray⟩), (3, .slice A111 b1.length c111), (4, .int .i64 (IntKind.i64.wrap ((i : Int) + 1)))] (by kernel_rfl) ?_
          have := l0_0
          rw [show IntKind.i64.wrap ((i : Int) + 1) = ((i : Int) + 1) from w64 (by omega)]
          refine leR (nk105, b1, (i + 1), A111, c111) (Nat.lt_succ_self _) ⟨hnx105 _ (Option.some.inj hb_105).symm, H⟩ (by kernel_rfl)
        · rw [hb109]
          refine seg 1 [.co [1, 1, 1, 0, 1, 0, 0, 1, 0, 0, 1, 1], .bl 1, .co [1, 1, 1, 0, 1, 0, 0, 1, 1], .le 1, .bl 0, .le 0, .co [1, 1, 1, 1]] [(0, .string ⟨s_.toArray⟩), (3, .slice A_1_106 b.length c_2_106), (4, .int .i64 (i : Int))] (by kernel_rfl) ?_
          obtain ⟨b2, h_b2, hb_105⟩ := bindE hb_105
          obtain ⟨two, h_two, hb_105⟩ := bindE hb_105
          obtain ⟨b3, h_b3, hb_105⟩ := bindE hb_105
          have hst : statB (bodyOf Tryd.f44) [1, 1, 1, 0, 1, 0, 0, 1, 0, 0, 1, 1] = true := by kernel_rfl
          refine drawS (Has m) H (by kernel_rfl) (by kernel_rfl) ?_
          intro w116 H
          refine segD2 hst [0, 3, 4] [0, 3, 4] [(0, .string ⟨s_.toArray⟩), (4, .int .i64 (i : Int)), (23, .slice A_1_106 b.length c_2_106), (26, .string ⟨s_.toArray⟩), (27, .int .i64 (i : Int))] (by kernel_rfl) ?_
          refine takeD2 (i := 5) (d := (some 28)) (s := vS (Instr.index 9 (.string ⟨s_.toArray⟩) (.int .i64 (i : Int)))) (v := .int .u8 (c.toNat : Int)) hst (by kernel_rfl) (by kernel_rfl) (fun w' hw' => str_idx_run _ _ _ _ _ (by kernel_rfl) h_c) ?_
          replace H : St w noF m m [rowI rU8 5 A_1_106 c_2_106 b] w116 := H
          refine stD2 (i := 1) (by kernel_rfl) H.has (newS (some 24) (fun g => .slice (some ⟨g, 0, none⟩) 1 1) [.int .u8 37] 5 H (by kernel_rfl) ?_)
          intro g117 w117 H
          refine stD2 (i := 2) (by kernel_rfl) H.has (appS (r := rU8) (some 25) 23 5 1 (.int .u8 0) 23 1 A_1_106 (some ⟨g117, 0, none⟩) c_2_106 1 1 b [(37 : UInt8)] b2 _ H rfl ⟨Tryd.underlying23, by kernel_rfl⟩ rfl (by decide) (by kernel_rfl) (Cs.of_blk (H.blk 0 rfl)) (Rows.u8.2 rfl) rfl h_b2 (by decide) (by decide) ?_)
          intro A118 c118 w118 H
          replace H := H.drop 0 rfl
          refine stD2 (i := 6) (by kernel_rfl) H.has (callR (some 29) 62 #[.int .u8 (c.toNat : Int)] Tryd.call62 (ref27_two_c H.has c h_two) (by kernel_rfl) ?_)
          rintro _ w119 ⟨rfl, hx119, hl119_0⟩
          replace H := H.ex hx119
          refine stD2 (i := 7) (by kernel_rfl) H.has (appstrS (some 30) 23 9 5 23 0 A118 c118 b2 two b3 H rfl ⟨Tryd.underlying23, by kernel_rfl⟩ Tryd.underlying9 (by kernel_rfl) h_b3 ?_)
          intro A120 c120 w120 H
          refine segD2 hst [8] [0, 3, 4, 5, 1, 2, 6, 7, 8] [(0, .string ⟨s_.toArray⟩), (3, .slice A120 b3.length c120), (4, .int .i64 (i : Int))] (by kernel_rfl) ?_
          refine endD2 (by kernel_rfl) H.has ?_
          refine seg 6 [.le 1, .bl 0, .le 0, .co [1, 1, 1, 1]] [(0, .string ⟨s_.toArray⟩), (3, .slice A120 b3.length c120), (4, .int .i64 (IntKind.i64.wrap ((i : Int) + 1)))] (by kernel_rfl) ?_
          have := l0_0
          rw [show IntKind.i64.wrap ((i : Int) + 1) = ((i : Int) + 1) from w64 (by omega)]
          refine leR (nk105, b3, (i + 1), A120, c120) (Nat.lt_succ_self _) ⟨hnx105 _ (Option.some.inj hb_105).symm, H⟩ (by kernel_rfl)
      · rw [hb107]
        have p107 := of_decide_eq_false hb107
        refine seg 2 [.le 0, .co [1, 1, 1, 1]] [(3, .slice A_1_106 b.length c_2_106)] (by kernel_rfl) ?_
        refine leR_up (k' := []) (by rfl) ?_
        refine leJ (b, A_1_106, c_2_106) ⟨(hfin105 _ (Option.some.inj hb_105).symm).symm, H⟩ (by kernel_rfl)
    rintro ⟨b, A_1_84, c_2_84⟩ wj83 ⟨hy83, H⟩
    try dsimp only at hy83
    try dsimp only at H
    rw [hy83] at hf
    refine seg 3 [.op [1, 1, 1, 1, 0] 1, .co [1, 1, 1, 1, 1]] [(31, .slice A_1_84 b.length c_2_84)] (by kernel_rfl) ?_
    replace H : St w noF m m [rowI rU8 5 A_1_84 c_2_84 b] wj83 := H
    refine st (b2sS (some 32) 23 9 5 A_1_84 c_2_84 b Tryd.underlying23 Tryd.underlying5 Tryd.underlying9 (by kernel_rfl) (H.rowCs 0 rfl) ?_)
    have hl121 : b.length ≤ 9223372036854775807 := (Nat.le_trans (H.rowCap 0 rfl).1 (H.rowCap 0 rfl).2)
    refine seg 2 [.co [1, 1, 1, 1, 1]] [(2, .string ⟨b.toArray⟩)] (by kernel_rfl) ?_
    refine retR [2] [.string ⟨b.toArray⟩] (by kernel_rfl) (by kernel_rfl) (by kernel_rfl) ?_
    have hret := (Option.some.inj hf)
    subst hret
    exact ⟨_, rfl, rfl, H.scalar, hl121⟩
end Go.Proofs.YtgoedcjjckdlpaaDoor.F
