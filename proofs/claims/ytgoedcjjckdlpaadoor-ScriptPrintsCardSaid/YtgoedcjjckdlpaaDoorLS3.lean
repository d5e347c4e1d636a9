/- The code computes them: printed by lift.py, part 3. -/
import Derived.Test.YtgoedcjjckdlpaaDoorProg
import Derived.Test.YtgoedcjjckdlpaaDoorLSP
import Derived.Test.YtgoedcjjckdlpaaDoorLS2
set_option linter.unusedVariables false
set_option linter.unusedSimpArgs false
namespace Go.Proofs.YtgoedcjjckdlpaaDoor.F
open Go Go.RowKit Go.Proofs.YtgoedcjjckdlpaaDoor Go.Proofs.YtgoedcjjckdlpaaDoor.K
set_option maxRecDepth 100000
theorem script_words_c {m : Mem} {w : World} (hm : Has m w) (hG1 : TabM m 1 (tab0.map fU64)) (hG3 : TabM m 3 (tab2.map fU8)) (a : TApiAct) (A0_3 : Option Addr) (c0_3 : Nat) (s0_3 : SlI rU8 m A0_3 c0_3 a.Bytes) (A0_5 : Option Addr) (c0_5 : Nat) (s0_5 : SlI rU8 m A0_5 c0_5 a.Crash.Torn) (l0_10 : a.Call.Name.length ≤ 9223372036854775807) {r : (List (List UInt8))} (hf : script_words a = some r) :
    Calls Tryd.prog 25 #[.agg #[.int .i64 a.Do, .int .i64 a.Len, .int .u64 (a.Sum.toNat : Int), .slice A0_3 a.Bytes.length c0_3, .int .i64 a.Crash.After, .slice A0_5 a.Crash.Torn.length c0_5, .int .i64 a.Call.Do, .int .i64 a.Call.Ino, .int .i64 a.Call.A, .int .i64 a.Call.B, .string ⟨a.Call.Name.toArray⟩, .bool a.Call.On]] w fun e w' => ∃ v, e = .returned v ∧ ∃ Az_0 : Option Addr, ∃ cz_0 : Nat, ∃ m' : Mem, v = .slice Az_0 r.length cz_0 ∧ St w noF m m' [rowI rStr 9 Az_0 cz_0 r] w' := by
  unfold script_words at hf
  have H := St.start0 hm
  refine callsR Tryd.func25 (by kernel_rfl) (by kernel_rfl) ?_
  refine seg 2 [.op [0] 0, .co [1]] [(0, .agg #[.int .i64 a.Do, .int .i64 a.Len, .int .u64 (a.Sum.toNat : Int), .slice A0_3 a.Bytes.length c0_3, .int .i64 a.Crash.After, .slice A0_5 a.Crash.Torn.length c0_5, .int .i64 a.Call.Do, .int .i64 a.Call.Ino, .int .i64 a.Call.A, .int .i64 a.Call.B, .string ⟨a.Call.Name.toArray⟩, .bool a.Call.On])] (by kernel_rfl) ?_
  refine st (newS (some 1) (fun g => .pointer (some ⟨g, 0, none⟩)) [.int .i64 a.Do, .int .i64 a.Len, .int .u64 (a.Sum.toNat : Int), .slice A0_3 a.Bytes.length c0_3, .int .i64 a.Crash.After, .slice A0_5 a.Crash.Torn.length c0_5, .int .i64 a.Call.Do, .int .i64 a.Call.Ino, .int .i64 a.Call.A, .int .i64 a.Call.B, .string ⟨a.Call.Name.toArray⟩, .bool a.Call.On] 29 H (by kernel_rfl) ?_)
  intro g1 w1 H
  refine seg 6 [.op [1, 0, 0] 1, .co [1, 0, 1], .co [1, 1]] [(1, .pointer (some (⟨g1, 0, none⟩))), (8, .pointer (some (⟨g1, 0, none⟩)))] (by kernel_rfl) ?_
  refine st (ldR (some 9) 3 (⟨g1, 0, none⟩) (.int .i64 a.Do) (by kernel_rfl) (by kernel_rfl) (H.cellB 0 rfl rfl) ?_)
  refine seg 2 [.co [1, 0, 1], .co [1, 1]] [(1, .pointer (some (⟨g1, 0, none⟩))), (10, .bool (a.Do != 7))] (by kernel_rfl) ?_
  rcases condT hf with ⟨hb95, hf⟩ | ⟨hb95, hf⟩
  · rw [hb95]
    refine seg 2 [.co [1, 0, 1, 0, 0], .co [1, 0, 1, 0, 1], .co [1, 1]] [(1, .pointer (some (⟨g1, 0, none⟩)))] (by kernel_rfl) ?_
    obtain ⟨x_, h_x_, hf⟩ := bindE hf
    obtain ⟨i097, i197, ix97⟩ := idx_some h_x_
    have hst : statB (bodyOf Tryd.f25) [1, 0, 1, 0, 0] = true := by kernel_rfl
    refine drawS (fun w' => Has m w' ∧ w'.heap[g1]? = some (.cells [.int .i64 a.Do, .int .i64 a.Len, .int .u64 (a.Sum.toNat : Int), .slice A0_3 a.Bytes.length c0_3, .int .i64 a.Crash.After, .slice A0_5 a.Crash.Torn.length c0_5, .int .i64 a.Call.Do, .int .i64 a.Call.Ino, .int .i64 a.Call.A, .int .i64 a.Call.B, .string ⟨a.Call.Name.toArray⟩, .bool a.Call.On].toArray 29 (0, 0))) H (by kernel_rfl) (by kernel_rfl) ?_
    intro w100 H
    refine segD2 hst [1] [1] [(1, .pointer (some (⟨g1, 0, none⟩))), (12, .pointer (some (⟨g1, 0, none⟩)))] (by kernel_rfl) ?_
    refine takeD2 (i := 2) (d := (some 13)) (s := vS (Instr.loadAt 3 (.pointer (some (⟨g1, 0, none⟩))))) (v := (.int .i64 a.Do)) hst (by kernel_rfl) (by kernel_rfl) (fun w' hw' => ld_run _ _ _ (by kernel_rfl) (blk_cell hw'.2 rfl)) ?_
    replace H : St w noF m m [blkI g1 [.int .i64 a.Do, .int .i64 a.Len, .int .u64 (a.Sum.toNat : Int), .slice A0_3 a.Bytes.length c0_3, .int .i64 a.Crash.After, .slice A0_5 a.Crash.Torn.length c0_5, .int .i64 a.Call.Do, .int .i64 a.Call.Ino, .int .i64 a.Call.A, .int .i64 a.Call.B, .string ⟨a.Call.Name.toArray⟩, .bool a.Call.On] 29] w100 := H
    refine stD2 (i := 0) (by kernel_rfl) ⟨H.has, H.blk 0 rfl⟩ (callR (some 11) 33 #[] Tryd.call33 (script_actWords_c H.has ) (by kernel_rfl) ?_)
    rintro _ w101 ⟨A101_0, c101_0, mk101, rfl, hS101⟩
    have hsub101 := hS101.sub
    replace H := H.call0 hS101
    obtain ⟨ad102, _, ea102, ⟨rfl, hl102_0⟩, hc102⟩ := H.rowAt 0 rfl ix97 (by decide)
    refine stD2 (i := 3) (by kernel_rfl) ⟨(H.has.sub hsub101), H.blk 1 rfl⟩ (idxS (some 14) 52 9 1 A101_0 ad102 script_actWords.length c101_0 .i64 a.Do ea102 (by kernel_rfl) (by kernel_rfl) i097 i197 ?_)
    refine stD2 (i := 4) (by kernel_rfl) ⟨(H.has.sub hsub101), H.blk 1 rfl⟩ (ldR (some 15) 9 (ad102.add (a.Do.toNat * 1)) (.string ⟨x_.toArray⟩) (by kernel_rfl) (by kernel_rfl) (add0 (hc102 0 _ rfl)) ?_)
    refine stD2 (i := 5) (by kernel_rfl) ⟨(H.has.sub hsub101), H.blk 1 rfl⟩ (newS (some 16) (fun g => .slice (some ⟨g, 0, none⟩) 1 1) [.string ⟨x_.toArray⟩] 9 H (by kernel_rfl) ?_)
    intro g103 w103 H
    refine segD2 hst [6] [1, 2, 0, 3, 4, 5, 6] [(1, .pointer (some (⟨g1, 0, none⟩))), (3, .slice (some ⟨g103, 0, none⟩) 1 1)] (by kernel_rfl) ?_
    refine endD2 (by kernel_rfl) ⟨(H.has.sub hsub101), H.blk 2 rfl⟩ ?_
    refine seg 4 [.op [1, 0, 1, 0, 1, 0, 0] 1, .co [1, 0, 1, 0, 1, 0, 1], .co [1, 0, 1, 0, 1, 1], .co [1, 1]] [(1, .pointer (some (⟨g1, 0, none⟩))), (3, .slice (some ⟨g103, 0, none⟩) 1 1), (17, .pointer (some (⟨g1, 0, none⟩)))] (by kernel_rfl) ?_
    refine st (ldR (some 18) 3 (⟨g1, 0, none⟩) (.int .i64 a.Do) (by kernel_rfl) (by kernel_rfl) (H.cellB 2 rfl rfl) ?_)
    refine seg 7 [.co [1, 0, 1, 0, 1, 0, 1, 0, 1], .bl 0, .co [1, 0, 1, 0, 1, 1], .co [1, 1]] [(1, .pointer (some (⟨g1, 0, none⟩))), (3, .slice (some ⟨g103, 0, none⟩) 1 1), (18, .int .i64 a.Do), (19, .bool (a.Do == 1))] (by kernel_rfl) ?_
    rcases condT hf with ⟨hb104, hf⟩ | ⟨hb104, hf⟩
    · rw [hb104]
      refine seg 4 [.op [1, 0, 1, 0, 1, 0, 1, 0, 1, 0, 0] 1, .co [1, 0, 1, 0, 1, 0, 1, 0, 1, 0, 1], .bl 0, .co [1, 0, 1, 0, 1, 1], .co [1, 1]] [(1, .pointer (some (⟨g1, 0, none⟩))), (3, .slice (some ⟨g103, 0, none⟩) 1 1), (21, .pointer (some (⟨g1, 2, none⟩)))] (by kernel_rfl) ?_
      refine st (ldR (some 22) 22 (⟨g1, 2, none⟩) (.int .u64 (a.Sum.toNat : Int)) (by kernel_rfl) (by kernel_rfl) (H.cellB 2 rfl rfl) ?_)
      obtain ⟨format, h_format, hf⟩ := bindE hf
      refine st (callR (some 23) 34 #[.int .u64 (a.Sum.toNat : Int), .int .i64 16] Tryd.call34 (strconv_FormatUint_c H.has (hG1.mono hsub101) (hG3.mono hsub101) a.Sum 16 h_format) (by kernel_rfl) ?_)
      rintro _ w105 ⟨rfl, hx105, hl105_0⟩
      replace H := H.ex hx105
      refine seg 5 [.op [1, 0, 1, 0, 1, 0, 1, 0, 1, 0, 1] 2, .bl 0, .co [1, 0, 1, 0, 1, 1], .co [1, 1]] [(4, .string ⟨format.toArray⟩), (24, .slice (some ⟨g103, 0, none⟩) 1 1), (25, .pointer (some (⟨g1, 1, none⟩)))] (by kernel_rfl) ?_
      refine st (ldR (some 26) 3 (⟨g1, 1, none⟩) (.int .i64 a.Len) (by kernel_rfl) (by kernel_rfl) (H.cellB 2 rfl rfl) ?_)
      obtain ⟨hc107, hf⟩ := chkE hf
      refine st (itoaS lays171 (some 27) 35 1 a.Len rfl (by kernel_rfl) (hG1.mono hsub101) (by kernel_rfl) (of_decide_eq_true hc107) H Tryd.call35 (by kernel_rfl) ?_)
      intro w106 H
      have hl108 : (Lib.itoa a.Len).length ≤ 9223372036854775807 := itoa_le (of_decide_eq_true hc107)
      refine seg 3 [.op [1, 0, 1, 0, 1, 0, 1, 0, 1, 0, 1] 7, .bl 0, .co [1, 0, 1, 0, 1, 1], .co [1, 1]] [(4, .string ⟨format.toArray⟩), (24, .slice (some ⟨g103, 0, none⟩) 1 1), (27, .string ⟨(Lib.itoa a.Len).toArray⟩), (30, .int .i64 (IntKind.i64.wrap (16 - (format.length : Int))))] (by kernel_rfl) ?_
      have := hl105_0
      rw [show IntKind.i64.wrap (16 - (format.length : Int)) = (16 - (format.length : Int)) from w64 (by omega)]
      replace H : St w noF m mk101 [blkI g103 [.string ⟨x_.toArray⟩] 9] w106 := ((H.drop 2 rfl).drop 1 rfl)
      obtain ⟨hc110, hf⟩ := chkE hf
      refine st (repS lays105 laysX (some 31) 36 ([48] : List UInt8) (16 - (format.length : Int)) rfl H (of_decide_eq_true hc110) Tryd.call36 (by kernel_rfl) ?_)
      intro w109 H
      have hl111 : (Lib.repeatL ([48] : List UInt8) (16 - (format.length : Int)).toNat).length ≤ 9223372036854775807 := repL_le (of_decide_eq_true hc110)
      refine seg 1 [.op [1, 0, 1, 0, 1, 0, 1, 0, 1, 0, 1] 9, .bl 0, .co [1, 0, 1, 0, 1, 1], .co [1, 1]] [(24, .slice (some ⟨g103, 0, none⟩) 1 1), (27, .string ⟨(Lib.itoa a.Len).toArray⟩), (31, .string ⟨(Lib.repeatL ([48] : List UInt8) (16 - (format.length : Int)).toNat).toArray⟩), (32, .string ⟨format.toArray⟩)] (by kernel_rfl) ?_
      obtain ⟨s_, h_s_, hf⟩ := bindE hf
      refine st (catS (some 33) 9 (Lib.repeatL ([48] : List UInt8) (16 - (format.length : Int)).toNat) format s_ (by kernel_rfl) h_s_ ?_)
      have hl112 : s_.length ≤ 9223372036854775807 := by obtain ⟨h1, h2⟩ := cat_some h_s_; rw [h2, List.length_append]; exact h1
      refine st (newS (some 34) (fun g => .slice (some ⟨g, 0, none⟩) 2 2) [.string ⟨(Lib.itoa a.Len).toArray⟩, .string ⟨s_.toArray⟩] 9 H (by kernel_rfl) ?_)
      intro g113 w113 H
      have H := H.toRow (r := rStr) (l := [x_]) 1 rfl (Rows.cons (cs := [.string ⟨x_.toArray⟩]) ⟨rfl, hl102_0⟩ Rows.nil) (Nat.le_of_ble_eq_true rfl)
      obtain ⟨b, h_b, hf⟩ := bindE hf
      refine st (appS (r := rStr) (some 35) 52 9 16 (.string ⟨([] : List UInt8).toArray⟩) 52 1 (some ⟨g103, 0, none⟩) (some ⟨g113, 0, none⟩) 1 2 2 [x_] [(Lib.itoa a.Len), s_] b _ H rfl ⟨Tryd.underlying52, by kernel_rfl⟩ rfl (by decide) (by kernel_rfl) (Cs.of_blk (H.blk 0 rfl)) (Rows.cons (cs := [.string ⟨(Lib.itoa a.Len).toArray⟩]) ⟨rfl, hl108⟩ (Rows.cons (cs := [.string ⟨s_.toArray⟩]) ⟨rfl, hl112⟩ Rows.nil)) rfl h_b (by decide) (by decide) ?_)
      intro A114 c114 w114 H
      replace H := H.drop 0 rfl
      refine seg 8 [.co [1, 0, 1, 0, 1, 1, 1], .co [1, 1]] [(2, .slice A114 b.length c114)] (by kernel_rfl) ?_
      refine retR [2] [.slice A114 b.length c114] (by kernel_rfl) (by kernel_rfl) (by kernel_rfl) ?_
      have hret := (Option.some.inj hf)
      subst hret
      exact ⟨_, rfl, A114, c114, mk101, rfl, H⟩
    · rw [hb104]
      refine seg 6 [.co [1, 0, 1, 0, 1, 0, 1, 0, 1, 1, 1], .bl 0, .co [1, 0, 1, 0, 1, 1], .co [1, 1]] [(1, .pointer (some (⟨g1, 0, none⟩))), (3, .slice (some ⟨g103, 0, none⟩) 1 1), (18, .int .i64 a.Do), (36, .bool (a.Do == 2))] (by kernel_rfl) ?_
      rcases condT hf with ⟨hb115, hf⟩ | ⟨hb115, hf⟩
      · rw [hb115]
        refine seg 4 [.op [1, 0, 1, 0, 1, 0, 1, 0, 1, 1, 1, 0] 2, .bl 0, .co [1, 0, 1, 0, 1, 1], .co [1, 1]] [(38, .slice (some ⟨g103, 0, none⟩) 1 1), (39, .pointer (some (⟨g1, 3, none⟩)))] (by kernel_rfl) ?_
        refine st (ldR (some 40) 23 (⟨g1, 3, none⟩) (.slice A0_3 a.Bytes.length c0_3) (by kernel_rfl) (by kernel_rfl) (H.cellB 2 rfl rfl) ?_)
        obtain ⟨hex, h_hex, hf⟩ := bindE hf
        refine st (callR (some 41) 37 #[.slice A0_3 a.Bytes.length c0_3] Tryd.call37 (script_hex_c H.has a.Bytes A0_3 c0_3 (s0_3.mono hsub101) h_hex) (by kernel_rfl) ?_)
        rintro _ w116 ⟨rfl, hx116, hl116_0⟩
        replace H := H.ex hx116
        replace H : St w noF m mk101 [blkI g103 [.string ⟨x_.toArray⟩] 9] w116 := ((H.drop 2 rfl).drop 1 rfl)
        refine st (newS (some 42) (fun g => .slice (some ⟨g, 0, none⟩) 1 1) [.string ⟨hex.toArray⟩] 9 H (by kernel_rfl) ?_)
        intro g117 w117 H
        have H := H.toRow (r := rStr) (l := [x_]) 1 rfl (Rows.cons (cs := [.string ⟨x_.toArray⟩]) ⟨rfl, hl102_0⟩ Rows.nil) (Nat.le_of_ble_eq_true rfl)
        obtain ⟨b1, h_b1, hf⟩ := bindE hf
        refine st (appS (r := rStr) (some 43) 52 9 16 (.string ⟨([] : List UInt8).toArray⟩) 52 1 (some ⟨g103, 0, none⟩) (some ⟨g117, 0, none⟩) 1 1 1 [x_] [hex] b1 _ H rfl ⟨Tryd.underlying52, by kernel_rfl⟩ rfl (by decide) (by kernel_rfl) (Cs.of_blk (H.blk 0 rfl)) (Rows.cons (cs := [.string ⟨hex.toArray⟩]) ⟨rfl, hl116_0⟩ Rows.nil) rfl h_b1 (by decide) (by decide) ?_)
        intro A118 c118 w118 H
        replace H := H.drop 0 rfl
        refine seg 8 [.co [1, 0, 1, 0, 1, 1, 1], .co [1, 1]] [(2, .slice A118 b1.length c118)] (by kernel_rfl) ?_
        refine retR [2] [.slice A118 b1.length c118] (by kernel_rfl) (by kernel_rfl) (by kernel_rfl) ?_
        have hret := (Option.some.inj hf)
        subst hret
        exact ⟨_, rfl, A118, c118, mk101, rfl, H⟩
      · rw [hb115]
        refine seg 6 [.co [1, 0, 1, 0, 1, 0, 1, 0, 1, 1, 1, 1, 1], .bl 0, .co [1, 0, 1, 0, 1, 1], .co [1, 1]] [(1, .pointer (some (⟨g1, 0, none⟩))), (3, .slice (some ⟨g103, 0, none⟩) 1 1), (44, .bool (a.Do == 5))] (by kernel_rfl) ?_
        rcases condT hf with ⟨hb119, hf⟩ | ⟨hb119, hf⟩
        · rw [hb119]
          refine seg 1 [.co [1, 0, 1, 0, 1, 0, 1, 0, 1, 1, 1, 1, 1, 0], .bl 0, .co [1, 0, 1, 0, 1, 1], .co [1, 1]] [(1, .pointer (some (⟨g1, 0, none⟩))), (3, .slice (some ⟨g103, 0, none⟩) 1 1)] (by kernel_rfl) ?_
          obtain ⟨hc121, hf⟩ := chkE hf
          obtain ⟨hex1, h_hex1, hf⟩ := bindE hf
          obtain ⟨b2, h_b2, hf⟩ := bindE hf
          have hst : statB (bodyOf Tryd.f25) [1, 0, 1, 0, 1, 0, 1, 0, 1, 1, 1, 1, 1, 0] = true := by kernel_rfl
          refine drawS (fun w' => Has mk101 w' ∧ w'.heap[g1]? = some (.cells [.int .i64 a.Do, .int .i64 a.Len, .int .u64 (a.Sum.toNat : Int), .slice A0_3 a.Bytes.length c0_3, .int .i64 a.Crash.After, .slice A0_5 a.Crash.Torn.length c0_5, .int .i64 a.Call.Do, .int .i64 a.Call.Ino, .int .i64 a.Call.A, .int .i64 a.Call.B, .string ⟨a.Call.Name.toArray⟩, .bool a.Call.On].toArray 29 (0, 0))) H (by kernel_rfl) (by kernel_rfl) ?_
          intro w126 H
          refine segD2 hst [0, 1, 2, 5, 6] [0, 1, 2, 5, 6] [(46, .slice (some ⟨g103, 0, none⟩) 1 1), (48, .pointer (some (⟨g1, 4, none⟩))), (52, .pointer (some (⟨g1, 5, none⟩)))] (by kernel_rfl) ?_
          refine takeD2 (i := 3) (d := (some 49)) (s := vS (Instr.loadAt 3 (.pointer (some (⟨g1, 4, none⟩))))) (v := (.int .i64 a.Crash.After)) hst (by kernel_rfl) (by kernel_rfl) (fun w' hw' => ld_run _ _ _ (by kernel_rfl) (blk_cell hw'.2 rfl)) ?_
          refine takeD2 (i := 7) (d := (some 53)) (s := vS (Instr.loadAt 23 (.pointer (some (⟨g1, 5, none⟩))))) (v := (.slice A0_5 a.Crash.Torn.length c0_5)) hst (by kernel_rfl) (by kernel_rfl) (fun w' hw' => ld_run _ _ _ (by kernel_rfl) (blk_cell hw'.2 rfl)) ?_
          replace H : St w noF m mk101 [blkI g103 [.string ⟨x_.toArray⟩] 9, blkI g1 [.int .i64 a.Do, .int .i64 a.Len, .int .u64 (a.Sum.toNat : Int), .slice A0_3 a.Bytes.length c0_3, .int .i64 a.Crash.After, .slice A0_5 a.Crash.Torn.length c0_5, .int .i64 a.Call.Do, .int .i64 a.Call.Ino, .int .i64 a.Call.A, .int .i64 a.Call.B, .string ⟨a.Call.Name.toArray⟩, .bool a.Call.On] 29] w126 := (H.drop 1 rfl)
          refine stD2 (i := 4) (by kernel_rfl) ⟨H.has, H.blk 1 rfl⟩ (itoaS lays171 (some 50) 35 1 a.Crash.After rfl (by kernel_rfl) (hG1.mono hsub101) (by kernel_rfl) (of_decide_eq_true hc121) H Tryd.call35 (by kernel_rfl) ?_)
          intro w127 H
          have hl128 : (Lib.itoa a.Crash.After).length ≤ 9223372036854775807 := itoa_le (of_decide_eq_true hc121)
          refine stD2 (i := 8) (by kernel_rfl) ⟨H.has, H.blk 1 rfl⟩ (callR (some 54) 37 #[.slice A0_5 a.Crash.Torn.length c0_5] Tryd.call37 (script_hex_c H.has a.Crash.Torn A0_5 c0_5 (s0_5.mono hsub101) h_hex1) (by kernel_rfl) ?_)
          rintro _ w129 ⟨rfl, hx129, hl129_0⟩
          replace H := H.ex hx129
          refine stD2 (i := 9) (by kernel_rfl) ⟨H.has, H.blk 1 rfl⟩ (newS (some 55) (fun g => .slice (some ⟨g, 0, none⟩) 2 2) [.string ⟨(Lib.itoa a.Crash.After).toArray⟩, .string ⟨hex1.toArray⟩] 9 H (by kernel_rfl) ?_)
          intro g130 w130 H
          have H := H.toRow (r := rStr) (l := [x_]) 1 rfl (Rows.cons (cs := [.string ⟨x_.toArray⟩]) ⟨rfl, hl102_0⟩ Rows.nil) (Nat.le_of_ble_eq_true rfl)
          refine stD2 (i := 10) (by kernel_rfl) ⟨H.has, H.blk 2 rfl⟩ (appS (r := rStr) (some 56) 52 9 16 (.string ⟨([] : List UInt8).toArray⟩) 52 1 (some ⟨g103, 0, none⟩) (some ⟨g130, 0, none⟩) 1 2 2 [x_] [(Lib.itoa a.Crash.After), hex1] b2 _ H rfl ⟨Tryd.underlying52, by kernel_rfl⟩ rfl (by decide) (by kernel_rfl) (Cs.of_blk (H.blk 0 rfl)) (Rows.cons (cs := [.string ⟨(Lib.itoa a.Crash.After).toArray⟩]) ⟨rfl, hl128⟩ (Rows.cons (cs := [.string ⟨hex1.toArray⟩]) ⟨rfl, hl129_0⟩ Rows.nil)) rfl h_b2 (by decide) (by decide) ?_)
          intro A131 c131 w131 H
          replace H := H.drop 0 rfl
          refine segD2 hst [11] [0, 1, 2, 5, 6, 3, 7, 4, 8, 9, 10, 11] [(3, .slice A131 b2.length c131)] (by kernel_rfl) ?_
          refine endD2 (by kernel_rfl) ⟨H.has, H.blk 1 rfl⟩ ?_
          refine seg 6 [.co [1, 0, 1, 0, 1, 1, 1], .co [1, 1]] [(2, .slice A131 b2.length c131)] (by kernel_rfl) ?_
          refine retR [2] [.slice A131 b2.length c131] (by kernel_rfl) (by kernel_rfl) (by kernel_rfl) ?_
          have hret := (Option.some.inj hf)
          subst hret
          exact ⟨_, rfl, A131, c131, mk101, rfl, (St.takeN 1 H)⟩
        · rw [hb119]
          refine seg 8 [.co [1, 0, 1, 0, 1, 1, 1], .co [1, 1]] [(2, .slice (some ⟨g103, 0, none⟩) 1 1)] (by kernel_rfl) ?_
          have H := H.toRow (r := rStr) (l := [x_]) 0 rfl (Rows.cons (cs := [.string ⟨x_.toArray⟩]) ⟨rfl, hl102_0⟩ Rows.nil) (Nat.le_of_ble_eq_true rfl)
          refine retR [2] [.slice (some ⟨g103, 0, none⟩) 1 1] (by kernel_rfl) (by kernel_rfl) (by kernel_rfl) ?_
          obtain rfl : [x_] = r := (Option.some.inj hf)
          exact ⟨_, rfl, (some ⟨g103, 0, none⟩), 1, mk101, rfl, (St.takeN 1 H)⟩
  · rw [hb95]
    refine seg 3 [.co [1, 1, 0], .co [1, 1, 1]] [(1, .pointer (some (⟨g1, 0, none⟩)))] (by kernel_rfl) ?_
    obtain ⟨x_1, h_x_1, hf⟩ := bindE hf
    obtain ⟨i0133, i1133, ix133⟩ := idx_some h_x_1
    have hst : statB (bodyOf Tryd.f25) [1, 1, 0] = true := by kernel_rfl
    refine drawS (fun w' => Has m w' ∧ w'.heap[g1]? = some (.cells [.int .i64 a.Do, .int .i64 a.Len, .int .u64 (a.Sum.toNat : Int), .slice A0_3 a.Bytes.length c0_3, .int .i64 a.Crash.After, .slice A0_5 a.Crash.Torn.length c0_5, .int .i64 a.Call.Do, .int .i64 a.Call.Ino, .int .i64 a.Call.A, .int .i64 a.Call.B, .string ⟨a.Call.Name.toArray⟩, .bool a.Call.On].toArray 29 (0, 0))) H (by kernel_rfl) (by kernel_rfl) ?_
    intro w136 H
    refine segD2 hst [1, 2] [1, 2] [(1, .pointer (some (⟨g1, 0, none⟩))), (60, .pointer (some (⟨g1, 6, none⟩)))] (by kernel_rfl) ?_
    refine takeD2 (i := 3) (d := (some 61)) (s := vS (Instr.loadAt 3 (.pointer (some (⟨g1, 6, none⟩))))) (v := (.int .i64 a.Call.Do)) hst (by kernel_rfl) (by kernel_rfl) (fun w' hw' => ld_run _ _ _ (by kernel_rfl) (blk_cell hw'.2 rfl)) ?_
    replace H : St w noF m m [blkI g1 [.int .i64 a.Do, .int .i64 a.Len, .int .u64 (a.Sum.toNat : Int), .slice A0_3 a.Bytes.length c0_3, .int .i64 a.Crash.After, .slice A0_5 a.Crash.Torn.length c0_5, .int .i64 a.Call.Do, .int .i64 a.Call.Ino, .int .i64 a.Call.A, .int .i64 a.Call.B, .string ⟨a.Call.Name.toArray⟩, .bool a.Call.On] 29] w136 := H
    refine stD2 (i := 0) (by kernel_rfl) ⟨H.has, H.blk 0 rfl⟩ (callR (some 58) 38 #[] Tryd.call38 (script_callWords_c H.has ) (by kernel_rfl) ?_)
    rintro _ w137 ⟨A137_0, c137_0, mk137, rfl, hS137⟩
    have hsub137 := hS137.sub
    replace H := H.call0 hS137
    obtain ⟨ad138, _, ea138, ⟨rfl, hl138_0⟩, hc138⟩ := H.rowAt 0 rfl ix133 (by decide)
    refine stD2 (i := 4) (by kernel_rfl) ⟨(H.has.sub hsub137), H.blk 1 rfl⟩ (idxS (some 62) 52 9 1 A137_0 ad138 script_callWords.length c137_0 .i64 a.Call.Do ea138 (by kernel_rfl) (by kernel_rfl) i0133 i1133 ?_)
    refine stD2 (i := 5) (by kernel_rfl) ⟨(H.has.sub hsub137), H.blk 1 rfl⟩ (ldR (some 63) 9 (ad138.add (a.Call.Do.toNat * 1)) (.string ⟨x_1.toArray⟩) (by kernel_rfl) (by kernel_rfl) (add0 (hc138 0 _ rfl)) ?_)
    refine stD2 (i := 6) (by kernel_rfl) ⟨(H.has.sub hsub137), H.blk 1 rfl⟩ (newS (some 64) (fun g => .slice (some ⟨g, 0, none⟩) 1 1) [.string ⟨x_1.toArray⟩] 9 H (by kernel_rfl) ?_)
    intro g139 w139 H
    refine segD2 hst [7] [1, 2, 3, 0, 4, 5, 6, 7] [(1, .pointer (some (⟨g1, 0, none⟩))), (5, .slice (some ⟨g139, 0, none⟩) 1 1)] (by kernel_rfl) ?_
    refine endD2 (by kernel_rfl) ⟨(H.has.sub hsub137), H.blk 2 rfl⟩ ?_
    refine seg 4 [.op [1, 1, 1, 0, 0] 1, .co [1, 1, 1, 0, 1], .co [1, 1, 1, 1]] [(1, .pointer (some (⟨g1, 0, none⟩))), (5, .slice (some ⟨g139, 0, none⟩) 1 1), (65, .pointer (some (⟨g1, 6, none⟩)))] (by kernel_rfl) ?_
    refine st (ldAggR (some 66) 27 (⟨g1, 6, none⟩) [.int .i64 a.Call.Do, .int .i64 a.Call.Ino, .int .i64 a.Call.A, .int .i64 a.Call.B, .string ⟨a.Call.Name.toArray⟩, .bool a.Call.On] (by kernel_rfl) (by kernel_rfl) (H.cellsB 2 rfl (by rfl)) ?_)
    refine st (callR (some 67) 19 #[.agg #[.int .i64 a.Call.Do, .int .i64 a.Call.Ino, .int .i64 a.Call.A, .int .i64 a.Call.B, .string ⟨a.Call.Name.toArray⟩, .bool a.Call.On]] Tryd.call19 (script_numbers_c H.has a.Call l0_10) (by kernel_rfl) ?_)
    rintro _ w140 ⟨A140_0, c140_0, mk140, rfl, hS140⟩
    have hsub140 := hS140.sub
    replace H := H.call0 hS140
    refine seg 3 [.co [1, 1, 1, 0, 1], .co [1, 1, 1, 1]] [(1, .pointer (some (⟨g1, 0, none⟩))), (5, .slice (some ⟨g139, 0, none⟩) 1 1), (67, .slice A140_0 ((script_numbers a.Call).length) c140_0), (68, .int .i64 ((script_numbers a.Call).length : Int)), (69, .int .i64 0)] (by kernel_rfl) ?_
    obtain ⟨y210, hp210, hf⟩ := bindE hf
    refine joinR 0 (fun (x : (List (List UInt8)) × Option Addr × Nat) => [(1, .pointer (some (⟨g1, 0, none⟩))), (5, .slice (x.2.1) x.1.length (x.2.2))]) (fun (x : (List (List UInt8)) × Option Addr × Nat) (wj210 : World) => y210 = x.1 ∧ St w noF m mk140 [blkI g1 [.int .i64 a.Do, .int .i64 a.Len, .int .u64 (a.Sum.toNat : Int), .slice A0_3 a.Bytes.length c0_3, .int .i64 a.Crash.After, .slice A0_5 a.Crash.Torn.length c0_5, .int .i64 a.Call.Do, .int .i64 a.Call.Ino, .int .i64 a.Call.A, .int .i64 a.Call.B, .string ⟨a.Call.Name.toArray⟩, .bool a.Call.On] 29, rowI rStr 9 (x.2.1) (x.2.2) x.1] wj210) (by kernel_rfl) ?_ ?_
    · refine seg 1 [.co [1, 1, 1, 0, 1, 0], .bl 1, .le 0, .co [1, 1, 1, 1]] [(1, .pointer (some (⟨g1, 0, none⟩))), (5, .slice (some ⟨g139, 0, none⟩) 1 1), (67, .slice A140_0 ((script_numbers a.Call).length) c140_0), (68, .int .i64 ((script_numbers a.Call).length : Int)), (69, .int .i64 0)] (by kernel_rfl) ?_
      have H := H.toRow (r := rStr) (l := [x_1]) 1 rfl (Rows.cons (cs := [.string ⟨x_1.toArray⟩]) ⟨rfl, hl138_0⟩ Rows.nil) (Nat.le_of_ble_eq_true rfl)
      obtain ⟨nn230, hR230⟩ := loopO_iff.1 hp210
      refine loopR 1 (fun (x : Nat × (List (List UInt8)) × Nat × Option Addr × Nat) => [(1, .pointer (some (⟨g1, 0, none⟩))), (5, .slice (x.2.2.2.1) x.2.1.length (x.2.2.2.2)), (67, .slice A140_0 ((script_numbers a.Call).length) c140_0), (68, .int .i64 ((script_numbers a.Call).length : Int)), (69, .int .i64 (x.2.2.1 : Int))]) (fun (x : Nat × (List (List UInt8)) × Nat × Option Addr × Nat) (wl230 : World) => iter (fun s => script_words_l1 a s.1 s.2) x.1 (x.2.1, x.2.2.1) = some y210 ∧ St w noF m mk140 [blkI g1 [.int .i64 a.Do, .int .i64 a.Len, .int .u64 (a.Sum.toNat : Int), .slice A0_3 a.Bytes.length c0_3, .int .i64 a.Crash.After, .slice A0_5 a.Crash.Torn.length c0_5, .int .i64 a.Call.Do, .int .i64 a.Call.Ino, .int .i64 a.Call.A, .int .i64 a.Call.B, .string ⟨a.Call.Name.toArray⟩, .bool a.Call.On] 29, rowI rStr 9 (x.2.2.2.1) (x.2.2.2.2) x.2.1, rowI rI64 3 A140_0 c140_0 (script_numbers a.Call)] wl230) (fun (x : Nat × (List (List UInt8)) × Nat × Option Addr × Nat) => x.1) (nn230, [x_1], 0, (some ⟨g139, 0, none⟩), 1) (by kernel_rfl) (by kernel_rfl) (by kernel_rfl) ?_ ?_
      · exact ⟨hR230, (St.takeN 3 ((H.pull 1 rfl).pull 3 rfl))⟩
      rintro ⟨n230, l_, t, A_1_231, c_2_231⟩ wl230 ⟨hR230, H⟩
      try dsimp only at hR230
      try dsimp only at H
      obtain ⟨nk230, q230, rfl, hb_230, hnx230, hfin230⟩ := iterE hR230
      replace hb_230 : script_words_l1 a l_ t = some q230 := hb_230
      unfold script_words_l1 at hb_230
      refine seg 5 [.co [1, 1, 1, 0, 1, 0, 0, 1, 0], .co [1, 1, 1, 0, 1, 0, 0, 1, 1], .le 1, .bl 1, .le 0, .co [1, 1, 1, 1]] [(1, .pointer (some (⟨g1, 0, none⟩))), (5, .slice A_1_231 l_.length c_2_231), (67, .slice A140_0 ((script_numbers a.Call).length) c140_0), (68, .int .i64 ((script_numbers a.Call).length : Int)), (69, .int .i64 (t : Int)), (70, .bool (decide ((t : Int) < ((script_numbers a.Call).length : Int))))] (by kernel_rfl) ?_
      rcases condT hb_230 with ⟨hb232, hb_230⟩ | ⟨hb232, hb_230⟩
      · rw [hb232]
        have p232 := of_decide_eq_true hb232
        refine seg 6 [.op [1, 1, 1, 0, 1, 0, 0, 1, 1, 0, 0, 0] 0, .co [1, 1, 1, 0, 1, 0, 0, 1, 1, 0, 0, 1], .bl 2, .co [1, 1, 1, 0, 1, 0, 0, 1, 1, 1], .le 1, .bl 1, .le 0, .co [1, 1, 1, 1]] [(1, .pointer (some (⟨g1, 0, none⟩))), (5, .slice A_1_231 l_.length c_2_231), (67, .slice A140_0 ((script_numbers a.Call).length) c140_0), (68, .int .i64 ((script_numbers a.Call).length : Int)), (69, .int .i64 (t : Int))] (by kernel_rfl) ?_
        obtain ⟨x_2, h_x_2, hb_230⟩ := bindE hb_230
        obtain ⟨ad234, _, ea234, rfl, hc234⟩ := H.rowAt 2 rfl h_x_2 (by decide)
        refine st (idxS (some 71) 48 3 1 A140_0 ad234 ((script_numbers a.Call).length) c140_0 .i64 (t : Int) ea234 (by kernel_rfl) (by kernel_rfl) (by omega) (by have := (List.getElem?_eq_some_iff.1 h_x_2).1; omega) ?_)
        refine st (ldR (some 72) 3 (ad234.add (t * 1)) (.int .i64 x_2) (by kernel_rfl) (by kernel_rfl) (add0 (hc234 0 _ rfl)) ?_)
        refine seg 5 [.op [1, 1, 1, 0, 1, 0, 0, 1, 1, 0, 0, 1] 2, .bl 2, .co [1, 1, 1, 0, 1, 0, 0, 1, 1, 1], .le 1, .bl 1, .le 0, .co [1, 1, 1, 1]] [(1, .pointer (some (⟨g1, 0, none⟩))), (67, .slice A140_0 ((script_numbers a.Call).length) c140_0), (68, .int .i64 ((script_numbers a.Call).length : Int)), (69, .int .i64 (t : Int)), (73, .slice A_1_231 l_.length c_2_231), (74, .int .i64 x_2)] (by kernel_rfl) ?_
        obtain ⟨hc236, hb_230⟩ := chkE hb_230
        refine st (itoaS lays171 (some 75) 35 1 x_2 rfl (by kernel_rfl) (hG1.mono (hsub137.trans hsub140)) (by kernel_rfl) (of_decide_eq_true hc236) H Tryd.call35 (by kernel_rfl) ?_)
        intro w235 H
        have hl237 : (Lib.itoa x_2).length ≤ 9223372036854775807 := itoa_le (of_decide_eq_true hc236)
        refine st (newS (some 76) (fun g => .slice (some ⟨g, 0, none⟩) 1 1) [.string ⟨(Lib.itoa x_2).toArray⟩] 9 H (by kernel_rfl) ?_)
        intro g238 w238 H
        obtain ⟨b3, h_b3, hb_230⟩ := bindE hb_230
        refine st (appS (r := rStr) (some 77) 52 9 16 (.string ⟨([] : List UInt8).toArray⟩) 52 2 A_1_231 (some ⟨g238, 0, none⟩) c_2_231 1 1 l_ [(Lib.itoa x_2)] b3 _ H rfl ⟨Tryd.underlying52, by kernel_rfl⟩ rfl (by decide) (by kernel_rfl) (Cs.of_blk (H.blk 0 rfl)) (Rows.cons (cs := [.string ⟨(Lib.itoa x_2).toArray⟩]) ⟨rfl, hl237⟩ Rows.nil) rfl h_b3 (by decide) (by decide) ?_)
        intro A239 c239 w239 H
        replace H := H.drop 0 rfl
        refine seg 7 [.le 1, .bl 1, .le 0, .co [1, 1, 1, 1]] [(1, .pointer (some (⟨g1, 0, none⟩))), (5, .slice A239 b3.length c239), (67, .slice A140_0 ((script_numbers a.Call).length) c140_0), (68, .int .i64 ((script_numbers a.Call).length : Int)), (69, .int .i64 (IntKind.i64.wrap ((t : Int) + 1)))] (by kernel_rfl) ?_
        have := (le63 (H.rowCap 2 rfl))
        rw [show IntKind.i64.wrap ((t : Int) + 1) = ((t : Int) + 1) from w64 (by omega)]
        refine leR (nk230, b3, (t + 1), A239, c239) (Nat.lt_succ_self _) ⟨hnx230 _ (Option.some.inj hb_230).symm, H⟩ (by kernel_rfl)
      · rw [hb232]
        have p232 := of_decide_eq_false hb232
        refine seg 2 [.le 0, .co [1, 1, 1, 1]] [(1, .pointer (some (⟨g1, 0, none⟩))), (5, .slice A_1_231 l_.length c_2_231)] (by kernel_rfl) ?_
        refine leR_up (k' := []) (by rfl) ?_
        refine leJ (l_, A_1_231, c_2_231) ⟨(hfin230 _ (Option.some.inj hb_230).symm).symm, (St.takeN 2 ((H.pull 1 rfl).pull 1 rfl))⟩ (by kernel_rfl)
    rintro ⟨l_, A_1_211, c_2_211⟩ wj210 ⟨hy210, H⟩
    try dsimp only at hy210
    try dsimp only at H
    rw [hy210] at hf
    refine seg 5 [.op [1, 1, 1, 1, 0, 0] 2, .co [1, 1, 1, 1, 0, 1], .co [1, 1, 1, 1, 1]] [(1, .pointer (some (⟨g1, 0, none⟩))), (5, .slice A_1_211 l_.length c_2_211), (80, .pointer (some (⟨g1, 6, none⟩)))] (by kernel_rfl) ?_
    replace H : St w noF m mk140 [blkI g1 [.int .i64 a.Do, .int .i64 a.Len, .int .u64 (a.Sum.toNat : Int), .slice A0_3 a.Bytes.length c0_3, .int .i64 a.Crash.After, .slice A0_5 a.Crash.Torn.length c0_5, .int .i64 a.Call.Do, .int .i64 a.Call.Ino, .int .i64 a.Call.A, .int .i64 a.Call.B, .string ⟨a.Call.Name.toArray⟩, .bool a.Call.On] 29, rowI rStr 9 A_1_211 c_2_211 l_] wj210 := H
    refine st (ldR (some 81) 3 (⟨g1, 6, none⟩) (.int .i64 a.Call.Do) (by kernel_rfl) (by kernel_rfl) (H.cellB 0 rfl rfl) ?_)
    refine st (callR (some 82) 20 #[.int .i64 a.Call.Do] Tryd.call20 (script_named_c H.has a.Call.Do) (by kernel_rfl) ?_)
    rintro _ w240 ⟨rfl, hx240⟩
    replace H := H.ex hx240
    refine seg 1 [.co [1, 1, 1, 1, 0, 1], .co [1, 1, 1, 1, 1]] [(1, .pointer (some (⟨g1, 0, none⟩))), (5, .slice A_1_211 l_.length c_2_211), (82, .bool (script_named a.Call.Do))] (by kernel_rfl) ?_
    rcases condT hf with ⟨hb256, hf⟩ | ⟨hb256, hf⟩
    · rw [hb256]
      refine seg 5 [.op [1, 1, 1, 1, 0, 1, 0] 3, .co [1, 1, 1, 1, 1]] [(1, .pointer (some (⟨g1, 0, none⟩))), (83, .slice A_1_211 l_.length c_2_211), (85, .pointer (some (⟨g1, 10, none⟩)))] (by kernel_rfl) ?_
      refine st (ldR (some 86) 9 (⟨g1, 10, none⟩) (.string ⟨a.Call.Name.toArray⟩) (by kernel_rfl) (by kernel_rfl) (H.cellB 0 rfl rfl) ?_)
      obtain ⟨quote, h_quote, hf⟩ := bindE hf
      refine st (callR (some 87) 39 #[.string ⟨a.Call.Name.toArray⟩] Tryd.call39 (manifest_Quote_c H.has a.Call.Name l0_10 h_quote) (by kernel_rfl) ?_)
      rintro _ w257 ⟨rfl, hx257, hl257_0⟩
      replace H := H.ex hx257
      refine st (newS (some 88) (fun g => .slice (some ⟨g, 0, none⟩) 1 1) [.string ⟨quote.toArray⟩] 9 H (by kernel_rfl) ?_)
      intro g258 w258 H
      replace H : St w noF m mk140 [blkI g258 [.string ⟨quote.toArray⟩] 9, blkI g1 [.int .i64 a.Do, .int .i64 a.Len, .int .u64 (a.Sum.toNat : Int), .slice A0_3 a.Bytes.length c0_3, .int .i64 a.Crash.After, .slice A0_5 a.Crash.Torn.length c0_5, .int .i64 a.Call.Do, .int .i64 a.Call.Ino, .int .i64 a.Call.A, .int .i64 a.Call.B, .string ⟨a.Call.Name.toArray⟩, .bool a.Call.On] 29, rowI rStr 9 A_1_211 c_2_211 l_] w258 := H
      obtain ⟨b4, h_b4, hf⟩ := bindE hf
      refine st (appS (r := rStr) (some 89) 52 9 16 (.string ⟨([] : List UInt8).toArray⟩) 52 2 A_1_211 (some ⟨g258, 0, none⟩) c_2_211 1 1 l_ [quote] b4 _ H rfl ⟨Tryd.underlying52, by kernel_rfl⟩ rfl (by decide) (by kernel_rfl) (Cs.of_blk (H.blk 0 rfl)) (Rows.cons (cs := [.string ⟨quote.toArray⟩]) ⟨rfl, hl257_0⟩ Rows.nil) rfl h_b4 (by decide) (by decide) ?_)
      intro A259 c259 w259 H
      replace H := H.drop 0 rfl
      refine seg 7 [.op [1, 1, 1, 1, 1, 0, 0] 2, .co [1, 1, 1, 1, 1, 0, 1], .co [1, 1, 1, 1, 1, 1]] [(1, .pointer (some (⟨g1, 0, none⟩))), (5, .slice A259 b4.length c259), (91, .pointer (some (⟨g1, 6, none⟩)))] (by kernel_rfl) ?_
      refine st (ldR (some 92) 3 (⟨g1, 6, none⟩) (.int .i64 a.Call.Do) (by kernel_rfl) (by kernel_rfl) (H.cellB 0 rfl rfl) ?_)
      refine seg 2 [.op [1, 1, 1, 1, 1, 0, 0] 5, .co [1, 1, 1, 1, 1, 0, 1], .co [1, 1, 1, 1, 1, 1]] [(1, .pointer (some (⟨g1, 0, none⟩))), (5, .slice A259 b4.length c259), (94, .bool (a.Call.Do == 8))] (by kernel_rfl) ?_
      rcases condT hf with ⟨hb260, hf⟩ | ⟨hb260, hf⟩
      · rw [hb260]
        refine seg 2 [.op [1, 1, 1, 1, 1, 0, 0] 7, .co [1, 1, 1, 1, 1, 0, 1], .co [1, 1, 1, 1, 1, 1]] [(5, .slice A259 b4.length c259), (94, .bool true), (96, .pointer (some (⟨g1, 11, none⟩)))] (by kernel_rfl) ?_
        refine st (ldR (some 97) 4 (⟨g1, 11, none⟩) (.bool a.Call.On) (by kernel_rfl) (by kernel_rfl) (H.cellB 0 rfl rfl) ?_)
        refine seg 2 [.co [1, 1, 1, 1, 1, 0, 1], .co [1, 1, 1, 1, 1, 1]] [(5, .slice A259 b4.length c259), (98, .bool a.Call.On)] (by kernel_rfl) ?_
        rcases condT hf with ⟨hb261, hf⟩ | ⟨hb261, hf⟩
        · rw [hb261]
          refine seg 3 [.op [1, 1, 1, 1, 1, 0, 1, 0] 1, .co [1, 1, 1, 1, 1, 1]] [(99, .slice A259 b4.length c259)] (by kernel_rfl) ?_
          refine st (newS (some 100) (fun g => .slice (some ⟨g, 0, none⟩) 1 1) [.string ⟨([111, 110] : List UInt8).toArray⟩] 9 H (by kernel_rfl) ?_)
          intro g262 w262 H
          obtain ⟨b5, h_b5, hf⟩ := bindE hf
          refine st (appS (r := rStr) (some 101) 52 9 16 (.string ⟨([] : List UInt8).toArray⟩) 52 2 A259 (some ⟨g262, 0, none⟩) c259 1 1 b4 [([111, 110] : List UInt8)] b5 _ H rfl ⟨Tryd.underlying52, by kernel_rfl⟩ rfl (by decide) (by kernel_rfl) (Cs.of_blk (H.blk 0 rfl)) (Rows.cons (cs := [.string ⟨([111, 110] : List UInt8).toArray⟩]) ⟨rfl, (Nat.le_of_ble_eq_true rfl)⟩ Rows.nil) rfl h_b5 (by decide) (by decide) ?_)
          intro A263 c263 w263 H
          replace H := H.drop 0 rfl
          refine seg 7 [.co [1, 1, 1, 1, 1, 1, 1]] [(2, .slice A263 b5.length c263)] (by kernel_rfl) ?_
          refine retR [2] [.slice A263 b5.length c263] (by kernel_rfl) (by kernel_rfl) (by kernel_rfl) ?_
          have hret := (Option.some.inj hf)
          subst hret
          exact ⟨_, rfl, A263, c263, mk140, rfl, (St.takeN 1 (H.pull 1 rfl))⟩
        · rw [hb261]
          refine seg 7 [.co [1, 1, 1, 1, 1, 1, 1]] [(2, .slice A259 b4.length c259)] (by kernel_rfl) ?_
          refine retR [2] [.slice A259 b4.length c259] (by kernel_rfl) (by kernel_rfl) (by kernel_rfl) ?_
          have hret := (Option.some.inj hf)
          subst hret
          exact ⟨_, rfl, A259, c259, mk140, rfl, (St.takeN 1 (H.pull 1 rfl))⟩
      · rw [hb260]
        refine seg 12 [.co [1, 1, 1, 1, 1, 1, 1]] [(2, .slice A259 b4.length c259)] (by kernel_rfl) ?_
        refine retR [2] [.slice A259 b4.length c259] (by kernel_rfl) (by kernel_rfl) (by kernel_rfl) ?_
        have hret := (Option.some.inj hf)
        subst hret
        exact ⟨_, rfl, A259, c259, mk140, rfl, (St.takeN 1 (H.pull 1 rfl))⟩
    · rw [hb256]
      refine seg 7 [.op [1, 1, 1, 1, 1, 0, 0] 2, .co [1, 1, 1, 1, 1, 0, 1], .co [1, 1, 1, 1, 1, 1]] [(1, .pointer (some (⟨g1, 0, none⟩))), (5, .slice A_1_211 l_.length c_2_211), (91, .pointer (some (⟨g1, 6, none⟩)))] (by kernel_rfl) ?_
      refine st (ldR (some 92) 3 (⟨g1, 6, none⟩) (.int .i64 a.Call.Do) (by kernel_rfl) (by kernel_rfl) (H.cellB 0 rfl rfl) ?_)
      refine seg 2 [.op [1, 1, 1, 1, 1, 0, 0] 5, .co [1, 1, 1, 1, 1, 0, 1], .co [1, 1, 1, 1, 1, 1]] [(1, .pointer (some (⟨g1, 0, none⟩))), (5, .slice A_1_211 l_.length c_2_211), (94, .bool (a.Call.Do == 8))] (by kernel_rfl) ?_
      rcases condT hf with ⟨hb264, hf⟩ | ⟨hb264, hf⟩
      · rw [hb264]
        refine seg 2 [.op [1, 1, 1, 1, 1, 0, 0] 7, .co [1, 1, 1, 1, 1, 0, 1], .co [1, 1, 1, 1, 1, 1]] [(5, .slice A_1_211 l_.length c_2_211), (94, .bool true), (96, .pointer (some (⟨g1, 11, none⟩)))] (by kernel_rfl) ?_
        refine st (ldR (some 97) 4 (⟨g1, 11, none⟩) (.bool a.Call.On) (by kernel_rfl) (by kernel_rfl) (H.cellB 0 rfl rfl) ?_)
        refine seg 2 [.co [1, 1, 1, 1, 1, 0, 1], .co [1, 1, 1, 1, 1, 1]] [(5, .slice A_1_211 l_.length c_2_211), (98, .bool a.Call.On)] (by kernel_rfl) ?_
        rcases condT hf with ⟨hb265, hf⟩ | ⟨hb265, hf⟩
        · rw [hb265]
          refine seg 3 [.op [1, 1, 1, 1, 1, 0, 1, 0] 1, .co [1, 1, 1, 1, 1, 1]] [(99, .slice A_1_211 l_.length c_2_211)] (by kernel_rfl) ?_
          refine st (newS (some 100) (fun g => .slice (some ⟨g, 0, none⟩) 1 1) [.string ⟨([111, 110] : List UInt8).toArray⟩] 9 H (by kernel_rfl) ?_)
          intro g266 w266 H
          replace H : St w noF m mk140 [blkI g266 [.string ⟨([111, 110] : List UInt8).toArray⟩] 9, rowI rStr 9 A_1_211 c_2_211 l_] w266 := (H.drop 1 rfl)
          obtain ⟨b6, h_b6, hf⟩ := bindE hf
          refine st (appS (r := rStr) (some 101) 52 9 16 (.string ⟨([] : List UInt8).toArray⟩) 52 1 A_1_211 (some ⟨g266, 0, none⟩) c_2_211 1 1 l_ [([111, 110] : List UInt8)] b6 _ H rfl ⟨Tryd.underlying52, by kernel_rfl⟩ rfl (by decide) (by kernel_rfl) (Cs.of_blk (H.blk 0 rfl)) (Rows.cons (cs := [.string ⟨([111, 110] : List UInt8).toArray⟩]) ⟨rfl, (Nat.le_of_ble_eq_true rfl)⟩ Rows.nil) rfl h_b6 (by decide) (by decide) ?_)
          intro A267 c267 w267 H
          replace H := H.drop 0 rfl
          refine seg 7 [.co [1, 1, 1, 1, 1, 1, 1]] [(2, .slice A267 b6.length c267)] (by kernel_rfl) ?_
          refine retR [2] [.slice A267 b6.length c267] (by kernel_rfl) (by kernel_rfl) (by kernel_rfl) ?_
          have hret := (Option.some.inj hf)
          subst hret
          exact ⟨_, rfl, A267, c267, mk140, rfl, H⟩
        · rw [hb265]
          refine seg 7 [.co [1, 1, 1, 1, 1, 1, 1]] [(2, .slice A_1_211 l_.length c_2_211)] (by kernel_rfl) ?_
          refine retR [2] [.slice A_1_211 l_.length c_2_211] (by kernel_rfl) (by kernel_rfl) (by kernel_rfl) ?_
          have hret := (Option.some.inj hf)
          subst hret
          exact ⟨_, rfl, A_1_211, c_2_211, mk140, rfl, (St.takeN 1 (H.pull 1 rfl))⟩
      · rw [hb264]
        refine seg 12 [.co [1, 1, 1, 1, 1, 1, 1]] [(2, .slice A_1_211 l_.length c_2_211)] (by kernel_rfl) ?_
        refine retR [2] [.slice A_1_211 l_.length c_2_211] (by kernel_rfl) (by kernel_rfl) (by kernel_rfl) ?_
        have hret := (Option.some.inj hf)
        subst hret
        exact ⟨_, rfl, A_1_211, c_2_211, mk140, rfl, (St.takeN 1 (H.pull 1 rfl))⟩
theorem script_Print_c {m : Mem} {w : World} (hm : Has m w) (hG1 : TabM m 1 (tab0.map fU64)) (hG3 : TabM m 3 (tab2.map fU8)) (l_ : (List TApiAct)) (A0_0 : Option Addr) (c0_0 : Nat) (s0_0 : SlI rApiAct m A0_0 c0_0 l_) {r : ((List UInt8) × Int)} (hf : script_Print l_ = some r) :
    Calls Tryd.prog 14 #[.slice A0_0 l_.length c0_0] w fun e w' => ∃ v, e = .returned v ∧ ∃ Az_0 : Option Addr, ∃ cz_0 : Nat, ∃ m' : Mem, v = .tuple #[.slice Az_0 r.1.length cz_0, .int .i64 r.2] ∧ St w noF m m' [rowI rU8 5 Az_0 cz_0 r.1] w' := by
  unfold script_Print at hf
  have H := St.start0 hm
  refine callsR Tryd.func14 (by kernel_rfl) (by kernel_rfl) ?_
  refine seg 12 [.co [1, 0, 1], .co [1, 1]] [(0, .slice A0_0 l_.length c0_0), (13, .bool (decide ((l_.length : Int) > 16384)))] (by kernel_rfl) ?_
  rcases condT hf with ⟨hb2, hf⟩ | ⟨hb2, hf⟩
  · rw [hb2]
    have p2 := of_decide_eq_true hb2
    refine seg 6 [.co [1, 0, 1, 0, 1], .co [1, 1]] [(2, .slice none 0 0), (3, .int .i64 3)] (by kernel_rfl) ?_
    have H := H.nilR rU8 5
    refine retR [2, 3] [.slice none 0 0, .int .i64 3] (by kernel_rfl) (by kernel_rfl) (by kernel_rfl) ?_
    obtain rfl : ([], 3) = r := (Option.some.inj hf)
    exact ⟨_, rfl, none, 0, m, rfl, H⟩
  · rw [hb2]
    have p2 := of_decide_eq_false hb2
    refine seg 9 [.co [1, 1, 0, 1], .co [1, 1, 1]] [(0, .slice A0_0 l_.length c0_0), (14, .slice A0_0 l_.length c0_0), (15, .int .i64 (l_.length : Int)), (16, .int .i64 0)] (by kernel_rfl) ?_
    obtain ⟨y70, hp70, hfl70, hfr70⟩ := bndE hf
    refine joinR 0 (fun (x : Unit) => [(0, .slice A0_0 l_.length c0_0)]) (fun (x : Unit) (wj70 : World) => y70 = .inl () ∧ St w noF m m [] wj70) (by kernel_rfl) ?_ ?_
    · refine seg 1 [.co [1, 1, 0, 1, 0], .bl 0, .le 0, .co [1, 1, 1]] [(0, .slice A0_0 l_.length c0_0), (14, .slice A0_0 l_.length c0_0), (15, .int .i64 (l_.length : Int)), (16, .int .i64 0)] (by kernel_rfl) ?_
      obtain ⟨nn88, hR88⟩ := loopO_iff.1 hp70
      refine loopR 1 (fun (x : Nat × Nat) => [(0, .slice A0_0 l_.length c0_0), (14, .slice A0_0 l_.length c0_0), (15, .int .i64 (l_.length : Int)), (16, .int .i64 (x.2 : Int))]) (fun (x : Nat × Nat) (wl88 : World) => iter (fun s => script_Print_l1 l_ s) x.1 x.2 = some y70 ∧ St w noF m m [] wl88) (fun (x : Nat × Nat) => x.1) (nn88, 0) (by kernel_rfl) (by kernel_rfl) (by kernel_rfl) ?_ ?_
      · exact ⟨hR88, H⟩
      rintro ⟨n88, t⟩ wl88 ⟨hR88, H⟩
      try dsimp only at hR88
      try dsimp only at H
      obtain ⟨nk88, q88, rfl, hb_88, hnx88, hfin88⟩ := iterE hR88
      replace hb_88 : script_Print_l1 l_ t = some q88 := hb_88
      unfold script_Print_l1 at hb_88
      refine seg 5 [.co [1, 1, 0, 1, 0, 0, 1, 0], .co [1, 1, 0, 1, 0, 0, 1, 1], .le 1, .bl 0, .le 0, .co [1, 1, 1]] [(0, .slice A0_0 l_.length c0_0), (14, .slice A0_0 l_.length c0_0), (15, .int .i64 (l_.length : Int)), (16, .int .i64 (t : Int)), (17, .bool (decide ((t : Int) < (l_.length : Int))))] (by kernel_rfl) ?_
      rcases condT hb_88 with ⟨hb90, hb_88⟩ | ⟨hb90, hb_88⟩
      · rw [hb90]
        have p90 := of_decide_eq_true hb90
        refine seg 6 [.op [1, 1, 0, 1, 0, 0, 1, 1, 0, 0, 0] 0, .co [1, 1, 0, 1, 0, 0, 1, 1, 0, 0, 1], .bl 1, .co [1, 1, 0, 1, 0, 0, 1, 1, 1], .le 1, .bl 0, .le 0, .co [1, 1, 1]] [(0, .slice A0_0 l_.length c0_0), (14, .slice A0_0 l_.length c0_0), (15, .int .i64 (l_.length : Int)), (16, .int .i64 (t : Int))] (by kernel_rfl) ?_
        obtain ⟨x_, h_x_, hb_88⟩ := bindE hb_88
        obtain ⟨ad92, _, ea92, ⟨A92_3, c92_3, A92_5, c92_5, rfl, hs92_3, hs92_5, hl92_10⟩, hc92⟩ := s0_0.at_ h_x_ (by decide)
        refine st (idxS (some 18) 31 29 12 A0_0 ad92 l_.length c0_0 .i64 (t : Int) ea92 (by kernel_rfl) (by kernel_rfl) (by omega) (by have := (List.getElem?_eq_some_iff.1 h_x_).1; omega) ?_)
        refine st (ldAggR (some 19) 29 (ad92.add (t * 12)) [.int .i64 x_.Do, .int .i64 x_.Len, .int .u64 (x_.Sum.toNat : Int), .slice A92_3 x_.Bytes.length c92_3, .int .i64 x_.Crash.After, .slice A92_5 x_.Crash.Torn.length c92_5, .int .i64 x_.Call.Do, .int .i64 x_.Call.Ino, .int .i64 x_.Call.A, .int .i64 x_.Call.B, .string ⟨x_.Call.Name.toArray⟩, .bool x_.Call.On] (by kernel_rfl) (by kernel_rfl) (fun j v hj => H.cellI (hc92 j v hj)) ?_)
        refine st (newS (some 5) (fun g => .pointer (some ⟨g, 0, none⟩)) [.int .i64 0, .int .i64 0, .int .u64 0, .slice none 0 0, .int .i64 0, .slice none 0 0, .int .i64 0, .int .i64 0, .int .i64 0, .int .i64 0, .string ⟨([] : List UInt8).toArray⟩, .bool false] 29 H (by kernel_rfl) ?_)
        intro g93 w93 H
        refine st (stAggS none 29 0 g93 0 [.int .i64 x_.Do, .int .i64 x_.Len, .int .u64 (x_.Sum.toNat : Int), .slice A92_3 x_.Bytes.length c92_3, .int .i64 x_.Crash.After, .slice A92_5 x_.Crash.Torn.length c92_5, .int .i64 x_.Call.Do, .int .i64 x_.Call.Ino, .int .i64 x_.Call.A, .int .i64 x_.Call.B, .string ⟨x_.Call.Name.toArray⟩, .bool x_.Call.On] [.int .i64 0, .int .i64 0, .int .u64 0, .slice none 0 0, .int .i64 0, .slice none 0 0, .int .i64 0, .int .i64 0, .int .i64 0, .int .i64 0, .string ⟨([] : List UInt8).toArray⟩, .bool false] [.int .i64 x_.Do, .int .i64 x_.Len, .int .u64 (x_.Sum.toNat : Int), .slice A92_3 x_.Bytes.length c92_3, .int .i64 x_.Crash.After, .slice A92_5 x_.Crash.Torn.length c92_5, .int .i64 x_.Call.Do, .int .i64 x_.Call.Ino, .int .i64 x_.Call.A, .int .i64 x_.Call.B, .string ⟨x_.Call.Name.toArray⟩, .bool x_.Call.On] 29 H rfl (by kernel_rfl) (by kernel_rfl) (by rfl) (of_decide_eq_true rfl) rfl ?_)
        intro w94 H
        refine seg 3 [.op [1, 1, 0, 1, 0, 0, 1, 1, 0, 0, 1, 0] 0, .co [1, 1, 0, 1, 0, 0, 1, 1, 0, 0, 1, 1], .bl 1, .co [1, 1, 0, 1, 0, 0, 1, 1, 1], .le 1, .bl 0, .le 0, .co [1, 1, 1]] [(0, .slice A0_0 l_.length c0_0), (5, .pointer (some (⟨g93, 0, none⟩))), (14, .slice A0_0 l_.length c0_0), (15, .int .i64 (l_.length : Int)), (16, .int .i64 (t : Int))] (by kernel_rfl) ?_
        replace H : St w noF m m [blkI g93 [.int .i64 x_.Do, .int .i64 x_.Len, .int .u64 (x_.Sum.toNat : Int), .slice A92_3 x_.Bytes.length c92_3, .int .i64 x_.Crash.After, .slice A92_5 x_.Crash.Torn.length c92_5, .int .i64 x_.Call.Do, .int .i64 x_.Call.Ino, .int .i64 x_.Call.A, .int .i64 x_.Call.B, .string ⟨x_.Call.Name.toArray⟩, .bool x_.Call.On] 29] w94 := H
        refine st (ldAggR (some 20) 29 (⟨g93, 0, none⟩) [.int .i64 x_.Do, .int .i64 x_.Len, .int .u64 (x_.Sum.toNat : Int), .slice A92_3 x_.Bytes.length c92_3, .int .i64 x_.Crash.After, .slice A92_5 x_.Crash.Torn.length c92_5, .int .i64 x_.Call.Do, .int .i64 x_.Call.Ino, .int .i64 x_.Call.A, .int .i64 x_.Call.B, .string ⟨x_.Call.Name.toArray⟩, .bool x_.Call.On] (by kernel_rfl) (by kernel_rfl) (H.cellsB 0 rfl (by rfl)) ?_)
        obtain ⟨check, h_check, hb_88⟩ := bindE hb_88
        refine st (callR (some 21) 10 #[.agg #[.int .i64 x_.Do, .int .i64 x_.Len, .int .u64 (x_.Sum.toNat : Int), .slice A92_3 x_.Bytes.length c92_3, .int .i64 x_.Crash.After, .slice A92_5 x_.Crash.Torn.length c92_5, .int .i64 x_.Call.Do, .int .i64 x_.Call.Ino, .int .i64 x_.Call.A, .int .i64 x_.Call.B, .string ⟨x_.Call.Name.toArray⟩, .bool x_.Call.On]] Tryd.call10 (script_Check_c H.has x_ A92_3 c92_3 hs92_3 A92_5 c92_5 hs92_5 hl92_10 h_check) (by kernel_rfl) ?_)
        rintro _ w95 ⟨rfl, hx95⟩
        replace H := H.ex hx95
        refine seg 7 [.co [1, 1, 0, 1, 0, 0, 1, 1, 0, 0, 1, 1, 1], .bl 1, .co [1, 1, 0, 1, 0, 0, 1, 1, 1], .le 1, .bl 0, .le 0, .co [1, 1, 1]] [(0, .slice A0_0 l_.length c0_0), (6, .int .i64 check), (14, .slice A0_0 l_.length c0_0), (15, .int .i64 (l_.length : Int)), (16, .int .i64 (t : Int)), (23, .bool (check != 0))] (by kernel_rfl) ?_
        rcases condT hb_88 with ⟨hb96, hb_88⟩ | ⟨hb96, hb_88⟩
        · rw [hb96]
          refine seg 7 [.co [1, 1, 0, 1, 0, 0, 1, 1, 0, 0, 1, 1, 1, 0, 1], .bl 1, .co [1, 1, 0, 1, 0, 0, 1, 1, 1], .le 1, .bl 0, .le 0, .co [1, 1, 1]] [(2, .slice none 0 0), (3, .int .i64 check)] (by kernel_rfl) ?_
          have H := H.nilR rU8 5
          refine retR [2, 3] [.slice none 0 0, .int .i64 check] (by kernel_rfl) (by kernel_rfl) (by kernel_rfl) ?_
          obtain rfl : ([], check) = r := (hfr70 _ (hfin88 _ (Option.some.inj hb_88).symm).symm)
          exact ⟨_, rfl, none, 0, m, rfl, (St.takeN 1 H)⟩
        · rw [hb96]
          refine seg 7 [.le 1, .bl 0, .le 0, .co [1, 1, 1]] [(0, .slice A0_0 l_.length c0_0), (14, .slice A0_0 l_.length c0_0), (15, .int .i64 (l_.length : Int)), (16, .int .i64 (IntKind.i64.wrap ((t : Int) + 1)))] (by kernel_rfl) ?_
          have := s0_0.bound
          rw [show IntKind.i64.wrap ((t : Int) + 1) = ((t : Int) + 1) from w64 (by omega)]
          refine leR (nk88, (t + 1)) (Nat.lt_succ_self _) ⟨hnx88 _ (Option.some.inj hb_88).symm, (St.takeN 0 H)⟩ (by kernel_rfl)
      · rw [hb90]
        have p90 := of_decide_eq_false hb90
        refine seg 2 [.le 0, .co [1, 1, 1]] [(0, .slice A0_0 l_.length c0_0)] (by kernel_rfl) ?_
        refine leR_up (k' := []) (by rfl) ?_
        refine leJ () ⟨(hfin88 _ (Option.some.inj hb_88).symm).symm, H⟩ (by kernel_rfl)
    rintro _ wj70 ⟨hy70, H⟩
    have hf := hfl70 _ hy70
    try dsimp only at hf
    refine seg 11 [.co [1, 1, 1, 1, 0, 1], .co [1, 1, 1, 1, 1]] [(7, .slice none 0 0), (26, .slice A0_0 l_.length c0_0), (27, .int .i64 (l_.length : Int)), (28, .int .i64 0)] (by kernel_rfl) ?_
    obtain ⟨y242, hp242, hfl242, hfr242⟩ := bndE hf
    refine joinR 0 (fun (x : (List UInt8) × Option Addr × Nat × Mem) => [(7, .slice (x.2.1) x.1.length (x.2.2.1))]) (fun (x : (List UInt8) × Option Addr × Nat × Mem) (wj242 : World) => y242 = .inl x.1 ∧ St w noF m x.2.2.2 [rowI rU8 5 (x.2.1) (x.2.2.1) x.1] wj242 ∧ Sub m x.2.2.2) (by kernel_rfl) ?_ ?_
    · refine seg 1 [.co [1, 1, 1, 1, 0, 1, 0], .bl 2, .le 0, .co [1, 1, 1, 1, 1]] [(7, .slice none 0 0), (26, .slice A0_0 l_.length c0_0), (27, .int .i64 (l_.length : Int)), (28, .int .i64 0)] (by kernel_rfl) ?_
      have H := H.nilR rU8 5
      obtain ⟨nn280, hR280⟩ := loopO_iff.1 hp242
      refine loopR 1 (fun (x : Nat × (List UInt8) × Nat × Option Addr × Nat × Mem) => [(7, .slice (x.2.2.2.1) x.2.1.length (x.2.2.2.2.1)), (26, .slice A0_0 l_.length c0_0), (27, .int .i64 (l_.length : Int)), (28, .int .i64 (x.2.2.1 : Int))]) (fun (x : Nat × (List UInt8) × Nat × Option Addr × Nat × Mem) (wl280 : World) => iter (fun s => script_Print_l2 l_ s.1 s.2) x.1 (x.2.1, x.2.2.1) = some y242 ∧ St w noF m x.2.2.2.2.2 [rowI rU8 5 (x.2.2.2.1) (x.2.2.2.2.1) x.2.1] wl280 ∧ Sub m x.2.2.2.2.2) (fun (x : Nat × (List UInt8) × Nat × Option Addr × Nat × Mem) => x.1) (nn280, [], 0, none, 0, m) (by kernel_rfl) (by kernel_rfl) (by kernel_rfl) ?_ ?_
      · exact ⟨hR280, H, (Sub.refl _)⟩
      rintro ⟨n280, b, t1, A_1_281, c_2_281, mm281⟩ wl280 ⟨hR280, H, hsub281⟩
      try dsimp only at hR280
      try dsimp only at H
      try dsimp only at hsub281
      obtain ⟨nk280, q280, rfl, hb_280, hnx280, hfin280⟩ := iterE hR280
      replace hb_280 : script_Print_l2 l_ b t1 = some q280 := hb_280
      unfold script_Print_l2 at hb_280
      refine seg 5 [.co [1, 1, 1, 1, 0, 1, 0, 0, 1, 0], .co [1, 1, 1, 1, 0, 1, 0, 0, 1, 1], .le 1, .bl 2, .le 0, .co [1, 1, 1, 1, 1]] [(7, .slice A_1_281 b.length c_2_281), (26, .slice A0_0 l_.length c0_0), (27, .int .i64 (l_.length : Int)), (28, .int .i64 (t1 : Int)), (29, .bool (decide ((t1 : Int) < (l_.length : Int))))] (by kernel_rfl) ?_
      rcases condT hb_280 with ⟨hb282, hb_280⟩ | ⟨hb282, hb_280⟩
      · rw [hb282]
        have p282 := of_decide_eq_true hb282
        refine seg 6 [.op [1, 1, 1, 1, 0, 1, 0, 0, 1, 1, 0, 0, 0] 0, .co [1, 1, 1, 1, 0, 1, 0, 0, 1, 1, 0, 0, 1], .bl 3, .co [1, 1, 1, 1, 0, 1, 0, 0, 1, 1, 1], .le 1, .bl 2, .le 0, .co [1, 1, 1, 1, 1]] [(7, .slice A_1_281 b.length c_2_281), (26, .slice A0_0 l_.length c0_0), (27, .int .i64 (l_.length : Int)), (28, .int .i64 (t1 : Int))] (by kernel_rfl) ?_
        obtain ⟨x_1, h_x_1, hb_280⟩ := bindE hb_280
        obtain ⟨ad284, _, ea284, ⟨A284_3, c284_3, A284_5, c284_5, rfl, hs284_3, hs284_5, hl284_10⟩, hc284⟩ := (s0_0.mono hsub281).at_ h_x_1 (by decide)
        refine st (idxS (some 30) 31 29 12 A0_0 ad284 l_.length c0_0 .i64 (t1 : Int) ea284 (by kernel_rfl) (by kernel_rfl) (by omega) (by have := (List.getElem?_eq_some_iff.1 h_x_1).1; omega) ?_)
        refine st (ldAggR (some 31) 29 (ad284.add (t1 * 12)) [.int .i64 x_1.Do, .int .i64 x_1.Len, .int .u64 (x_1.Sum.toNat : Int), .slice A284_3 x_1.Bytes.length c284_3, .int .i64 x_1.Crash.After, .slice A284_5 x_1.Crash.Torn.length c284_5, .int .i64 x_1.Call.Do, .int .i64 x_1.Call.Ino, .int .i64 x_1.Call.A, .int .i64 x_1.Call.B, .string ⟨x_1.Call.Name.toArray⟩, .bool x_1.Call.On] (by kernel_rfl) (by kernel_rfl) (fun j v hj => H.cellI (hc284 j v hj)) ?_)
        refine st (newS (some 9) (fun g => .pointer (some ⟨g, 0, none⟩)) [.int .i64 0, .int .i64 0, .int .u64 0, .slice none 0 0, .int .i64 0, .slice none 0 0, .int .i64 0, .int .i64 0, .int .i64 0, .int .i64 0, .string ⟨([] : List UInt8).toArray⟩, .bool false] 29 H (by kernel_rfl) ?_)
        intro g285 w285 H
        refine st (stAggS none 29 0 g285 0 [.int .i64 x_1.Do, .int .i64 x_1.Len, .int .u64 (x_1.Sum.toNat : Int), .slice A284_3 x_1.Bytes.length c284_3, .int .i64 x_1.Crash.After, .slice A284_5 x_1.Crash.Torn.length c284_5, .int .i64 x_1.Call.Do, .int .i64 x_1.Call.Ino, .int .i64 x_1.Call.A, .int .i64 x_1.Call.B, .string ⟨x_1.Call.Name.toArray⟩, .bool x_1.Call.On] [.int .i64 0, .int .i64 0, .int .u64 0, .slice none 0 0, .int .i64 0, .slice none 0 0, .int .i64 0, .int .i64 0, .int .i64 0, .int .i64 0, .string ⟨([] : List UInt8).toArray⟩, .bool false] [.int .i64 x_1.Do, .int .i64 x_1.Len, .int .u64 (x_1.Sum.toNat : Int), .slice A284_3 x_1.Bytes.length c284_3, .int .i64 x_1.Crash.After, .slice A284_5 x_1.Crash.Torn.length c284_5, .int .i64 x_1.Call.Do, .int .i64 x_1.Call.Ino, .int .i64 x_1.Call.A, .int .i64 x_1.Call.B, .string ⟨x_1.Call.Name.toArray⟩, .bool x_1.Call.On] 29 H rfl (by kernel_rfl) (by kernel_rfl) (by rfl) (of_decide_eq_true rfl) rfl ?_)
        intro w286 H
        refine seg 3 [.op [1, 1, 1, 1, 0, 1, 0, 0, 1, 1, 0, 0, 1, 0] 0, .co [1, 1, 1, 1, 0, 1, 0, 0, 1, 1, 0, 0, 1, 1], .bl 3, .co [1, 1, 1, 1, 0, 1, 0, 0, 1, 1, 1], .le 1, .bl 2, .le 0, .co [1, 1, 1, 1, 1]] [(7, .slice A_1_281 b.length c_2_281), (9, .pointer (some (⟨g285, 0, none⟩))), (26, .slice A0_0 l_.length c0_0), (27, .int .i64 (l_.length : Int)), (28, .int .i64 (t1 : Int))] (by kernel_rfl) ?_
        refine st (ldAggR (some 32) 29 (⟨g285, 0, none⟩) [.int .i64 x_1.Do, .int .i64 x_1.Len, .int .u64 (x_1.Sum.toNat : Int), .slice A284_3 x_1.Bytes.length c284_3, .int .i64 x_1.Crash.After, .slice A284_5 x_1.Crash.Torn.length c284_5, .int .i64 x_1.Call.Do, .int .i64 x_1.Call.Ino, .int .i64 x_1.Call.A, .int .i64 x_1.Call.B, .string ⟨x_1.Call.Name.toArray⟩, .bool x_1.Call.On] (by kernel_rfl) (by kernel_rfl) (H.cellsB 0 rfl (by rfl)) ?_)
        obtain ⟨plain, h_plain, hb_280⟩ := bindE hb_280
        refine st (callR (some 33) 8 #[.agg #[.int .i64 x_1.Do, .int .i64 x_1.Len, .int .u64 (x_1.Sum.toNat : Int), .slice A284_3 x_1.Bytes.length c284_3, .int .i64 x_1.Crash.After, .slice A284_5 x_1.Crash.Torn.length c284_5, .int .i64 x_1.Call.Do, .int .i64 x_1.Call.Ino, .int .i64 x_1.Call.A, .int .i64 x_1.Call.B, .string ⟨x_1.Call.Name.toArray⟩, .bool x_1.Call.On]] Tryd.call8 (script_Plain_c H.has x_1 A284_3 c284_3 hs284_3 A284_5 c284_5 hs284_5 hl284_10 h_plain) (by kernel_rfl) ?_)
        rintro _ w287 ⟨A287_0_3, c287_0_3, A287_0_5, c287_0_5, mk287, rfl, hS287, hs287_0, hs287_1, hl287_0⟩
        have hsub287 := hS287.sub
        replace H := H.call0 hS287
        replace H : St w noF m mk287 [blkI g285 [.int .i64 x_1.Do, .int .i64 x_1.Len, .int .u64 (x_1.Sum.toNat : Int), .slice A284_3 x_1.Bytes.length c284_3, .int .i64 x_1.Crash.After, .slice A284_5 x_1.Crash.Torn.length c284_5, .int .i64 x_1.Call.Do, .int .i64 x_1.Call.Ino, .int .i64 x_1.Call.A, .int .i64 x_1.Call.B, .string ⟨x_1.Call.Name.toArray⟩, .bool x_1.Call.On] 29, rowI rU8 5 A_1_281 c_2_281 b] w287 := H
        refine st (newS (some 10) (fun g => .pointer (some ⟨g, 0, none⟩)) [.int .i64 0, .int .i64 0, .int .u64 0, .slice none 0 0, .int .i64 0, .slice none 0 0, .int .i64 0, .int .i64 0, .int .i64 0, .int .i64 0, .string ⟨([] : List UInt8).toArray⟩, .bool false] 29 H (by kernel_rfl) ?_)
        intro g288 w288 H
        refine st (stAggS none 29 0 g288 0 [.int .i64 plain.Do, .int .i64 plain.Len, .int .u64 (plain.Sum.toNat : Int), .slice A287_0_3 plain.Bytes.length c287_0_3, .int .i64 plain.Crash.After, .slice A287_0_5 plain.Crash.Torn.length c287_0_5, .int .i64 plain.Call.Do, .int .i64 plain.Call.Ino, .int .i64 plain.Call.A, .int .i64 plain.Call.B, .string ⟨plain.Call.Name.toArray⟩, .bool plain.Call.On] [.int .i64 0, .int .i64 0, .int .u64 0, .slice none 0 0, .int .i64 0, .slice none 0 0, .int .i64 0, .int .i64 0, .int .i64 0, .int .i64 0, .string ⟨([] : List UInt8).toArray⟩, .bool false] [.int .i64 plain.Do, .int .i64 plain.Len, .int .u64 (plain.Sum.toNat : Int), .slice A287_0_3 plain.Bytes.length c287_0_3, .int .i64 plain.Crash.After, .slice A287_0_5 plain.Crash.Torn.length c287_0_5, .int .i64 plain.Call.Do, .int .i64 plain.Call.Ino, .int .i64 plain.Call.A, .int .i64 plain.Call.B, .string ⟨plain.Call.Name.toArray⟩, .bool plain.Call.On] 29 H rfl (by kernel_rfl) (by kernel_rfl) (by rfl) (of_decide_eq_true rfl) rfl ?_)
        intro w289 H
        refine seg 5 [.op [1, 1, 1, 1, 0, 1, 0, 0, 1, 1, 0, 0, 1, 1, 0, 0] 1, .co [1, 1, 1, 1, 0, 1, 0, 0, 1, 1, 0, 0, 1, 1, 0, 1], .co [1, 1, 1, 1, 0, 1, 0, 0, 1, 1, 0, 0, 1, 1, 1], .bl 3, .co [1, 1, 1, 1, 0, 1, 0, 0, 1, 1, 1], .le 1, .bl 2, .le 0, .co [1, 1, 1, 1, 1]] [(7, .slice A_1_281 b.length c_2_281), (9, .pointer (some (⟨g285, 0, none⟩))), (10, .pointer (some (⟨g288, 0, none⟩))), (26, .slice A0_0 l_.length c0_0), (27, .int .i64 (l_.length : Int)), (28, .int .i64 (t1 : Int)), (34, .pointer (some (⟨g288, 3, none⟩)))] (by kernel_rfl) ?_
        refine st (ldR (some 35) 23 (⟨g288, 3, none⟩) (.slice A287_0_3 plain.Bytes.length c287_0_3) (by kernel_rfl) (by kernel_rfl) (H.cellB 0 rfl rfl) ?_)
        refine seg 3 [.op [1, 1, 1, 1, 0, 1, 0, 0, 1, 1, 0, 0, 1, 1, 0, 0] 5, .co [1, 1, 1, 1, 0, 1, 0, 0, 1, 1, 0, 0, 1, 1, 0, 1], .co [1, 1, 1, 1, 0, 1, 0, 0, 1, 1, 0, 0, 1, 1, 1], .bl 3, .co [1, 1, 1, 1, 0, 1, 0, 0, 1, 1, 1], .le 1, .bl 2, .le 0, .co [1, 1, 1, 1, 1]] [(7, .slice A_1_281 b.length c_2_281), (9, .pointer (some (⟨g285, 0, none⟩))), (10, .pointer (some (⟨g288, 0, none⟩))), (26, .slice A0_0 l_.length c0_0), (27, .int .i64 (l_.length : Int)), (28, .int .i64 (t1 : Int)), (36, .int .i64 (plain.Bytes.length : Int)), (38, .pointer (some (⟨g288, 5, none⟩)))] (by kernel_rfl) ?_
        refine st (ldR (some 39) 23 (⟨g288, 5, none⟩) (.slice A287_0_5 plain.Crash.Torn.length c287_0_5) (by kernel_rfl) (by kernel_rfl) (H.cellB 0 rfl rfl) ?_)
        refine seg 3 [.op [1, 1, 1, 1, 0, 1, 0, 0, 1, 1, 0, 0, 1, 1, 0, 0] 9, .co [1, 1, 1, 1, 0, 1, 0, 0, 1, 1, 0, 0, 1, 1, 0, 1], .co [1, 1, 1, 1, 0, 1, 0, 0, 1, 1, 0, 0, 1, 1, 1], .bl 3, .co [1, 1, 1, 1, 0, 1, 0, 0, 1, 1, 1], .le 1, .bl 2, .le 0, .co [1, 1, 1, 1, 1]] [(7, .slice A_1_281 b.length c_2_281), (9, .pointer (some (⟨g285, 0, none⟩))), (26, .slice A0_0 l_.length c0_0), (27, .int .i64 (l_.length : Int)), (28, .int .i64 (t1 : Int)), (36, .int .i64 (plain.Bytes.length : Int)), (40, .int .i64 (plain.Crash.Torn.length : Int)), (42, .pointer (some (⟨g288, 10, none⟩)))] (by kernel_rfl) ?_
        refine st (ldR (some 43) 9 (⟨g288, 10, none⟩) (.string ⟨plain.Call.Name.toArray⟩) (by kernel_rfl) (by kernel_rfl) (H.cellB 0 rfl rfl) ?_)
        refine seg 4 [.co [1, 1, 1, 1, 0, 1, 0, 0, 1, 1, 0, 0, 1, 1, 0, 1], .co [1, 1, 1, 1, 0, 1, 0, 0, 1, 1, 0, 0, 1, 1, 1], .bl 3, .co [1, 1, 1, 1, 0, 1, 0, 0, 1, 1, 1], .le 1, .bl 2, .le 0, .co [1, 1, 1, 1, 1]] [(7, .slice A_1_281 b.length c_2_281), (9, .pointer (some (⟨g285, 0, none⟩))), (26, .slice A0_0 l_.length c0_0), (27, .int .i64 (l_.length : Int)), (28, .int .i64 (t1 : Int)), (46, .bool (decide ((if (plain.Call.Name.length : Int) > (if (plain.Crash.Torn.length : Int) > (plain.Bytes.length : Int) then (plain.Crash.Torn.length : Int) else (plain.Bytes.length : Int)) then (plain.Call.Name.length : Int) else (if (plain.Crash.Torn.length : Int) > (plain.Bytes.length : Int) then (plain.Crash.Torn.length : Int) else (plain.Bytes.length : Int))) > 1048576)))] (by kernel_rfl) ?_
        rcases condT hb_280 with ⟨hb290, hb_280⟩ | ⟨hb290, hb_280⟩
        · rw [hb290]
          have p290 := of_decide_eq_true hb290
          refine seg 6 [.co [1, 1, 1, 1, 0, 1, 0, 0, 1, 1, 0, 0, 1, 1, 0, 1, 0, 1], .co [1, 1, 1, 1, 0, 1, 0, 0, 1, 1, 0, 0, 1, 1, 1], .bl 3, .co [1, 1, 1, 1, 0, 1, 0, 0, 1, 1, 1], .le 1, .bl 2, .le 0, .co [1, 1, 1, 1, 1]] [(2, .slice none 0 0), (3, .int .i64 2)] (by kernel_rfl) ?_
          have H := H.nilR rU8 5
          refine retR [2, 3] [.slice none 0 0, .int .i64 2] (by kernel_rfl) (by kernel_rfl) (by kernel_rfl) ?_
          obtain rfl : ([], 2) = r := (hfr242 _ (hfin280 _ (Option.some.inj hb_280).symm).symm)
          exact ⟨_, rfl, none, 0, mk287, rfl, (St.takeN 1 H)⟩
        · rw [hb290]
          have p290 := of_decide_eq_false hb290
          refine seg 5 [.op [1, 1, 1, 1, 0, 1, 0, 0, 1, 1, 0, 0, 1, 1, 1, 0] 1, .co [1, 1, 1, 1, 0, 1, 0, 0, 1, 1, 0, 0, 1, 1, 1, 1], .bl 3, .co [1, 1, 1, 1, 0, 1, 0, 0, 1, 1, 1], .le 1, .bl 2, .le 0, .co [1, 1, 1, 1, 1]] [(9, .pointer (some (⟨g285, 0, none⟩))), (26, .slice A0_0 l_.length c0_0), (27, .int .i64 (l_.length : Int)), (28, .int .i64 (t1 : Int)), (47, .slice A_1_281 b.length c_2_281)] (by kernel_rfl) ?_
          refine st (ldAggR (some 48) 29 (⟨g285, 0, none⟩) [.int .i64 x_1.Do, .int .i64 x_1.Len, .int .u64 (x_1.Sum.toNat : Int), .slice A284_3 x_1.Bytes.length c284_3, .int .i64 x_1.Crash.After, .slice A284_5 x_1.Crash.Torn.length c284_5, .int .i64 x_1.Call.Do, .int .i64 x_1.Call.Ino, .int .i64 x_1.Call.A, .int .i64 x_1.Call.B, .string ⟨x_1.Call.Name.toArray⟩, .bool x_1.Call.On] (by kernel_rfl) (by kernel_rfl) (H.cellsB 1 rfl (by rfl)) ?_)
          obtain ⟨words, h_words, hb_280⟩ := bindE hb_280
          refine st (callR (some 49) 25 #[.agg #[.int .i64 x_1.Do, .int .i64 x_1.Len, .int .u64 (x_1.Sum.toNat : Int), .slice A284_3 x_1.Bytes.length c284_3, .int .i64 x_1.Crash.After, .slice A284_5 x_1.Crash.Torn.length c284_5, .int .i64 x_1.Call.Do, .int .i64 x_1.Call.Ino, .int .i64 x_1.Call.A, .int .i64 x_1.Call.B, .string ⟨x_1.Call.Name.toArray⟩, .bool x_1.Call.On]] Tryd.call25 (script_words_c H.has (hG1.mono (hsub281.trans hsub287)) (hG3.mono (hsub281.trans hsub287)) x_1 A284_3 c284_3 (hs284_3.mono hsub287) A284_5 c284_5 (hs284_5.mono hsub287) hl284_10 h_words) (by kernel_rfl) ?_)
          rintro _ w291 ⟨A291_0, c291_0, mk291, rfl, hS291⟩
          have hsub291 := hS291.sub
          replace H := H.call0 hS291
          obtain ⟨hc292, hb_280⟩ := chkE hb_280
          refine st (joinS lays156 laysX (some 50) 24 0 9 A291_0 c291_0 words ([32] : List UInt8) rfl (of_decide_eq_true hc292) H rfl Tryd.call24 (by kernel_rfl) ?_)
          intro w293 H
          have hl294 : (Lib.join words ([32] : List UInt8)).length ≤ 9223372036854775807 := Nat.le_trans (of_decide_eq_true hc292).2 (by decide)
          replace H : St w noF m mk291 [rowI rU8 5 A_1_281 c_2_281 b] w293 := (((H.drop 2 rfl).drop 1 rfl).drop 0 rfl)
          obtain ⟨b1, h_b1, hb_280⟩ := bindE hb_280
          refine st (appstrS (some 51) 23 9 5 23 0 A_1_281 c_2_281 b (Lib.join words ([32] : List UInt8)) b1 H rfl ⟨Tryd.underlying23, by kernel_rfl⟩ Tryd.underlying9 (by kernel_rfl) h_b1 ?_)
          intro A295 c295 w295 H
          refine st (newS (some 52) (fun g => .slice (some ⟨g, 0, none⟩) 1 1) [.int .u8 10] 5 H (by kernel_rfl) ?_)
          intro g296 w296 H
          obtain ⟨b2, h_b2, hb_280⟩ := bindE hb_280
          refine st (appS (r := rU8) (some 53) 23 5 1 (.int .u8 0) 23 1 A295 (some ⟨g296, 0, none⟩) c295 1 1 b1 [(10 : UInt8)] b2 _ H rfl ⟨Tryd.underlying23, by kernel_rfl⟩ rfl (by decide) (by kernel_rfl) (Cs.of_blk (H.blk 0 rfl)) (Rows.u8.2 rfl) rfl h_b2 (by decide) (by decide) ?_)
          intro A297 c297 w297 H
          replace H := H.drop 0 rfl
          refine seg 8 [.co [1, 1, 1, 1, 0, 1, 0, 0, 1, 1, 0, 0, 1, 1, 1, 1, 1], .bl 3, .co [1, 1, 1, 1, 0, 1, 0, 0, 1, 1, 1], .le 1, .bl 2, .le 0, .co [1, 1, 1, 1, 1]] [(7, .slice A297 b2.length c297), (26, .slice A0_0 l_.length c0_0), (27, .int .i64 (l_.length : Int)), (28, .int .i64 (t1 : Int)), (56, .bool (decide ((b2.length : Int) > 1048576)))] (by kernel_rfl) ?_
          rcases condT hb_280 with ⟨hb298, hb_280⟩ | ⟨hb298, hb_280⟩
          · rw [hb298]
            have p298 := of_decide_eq_true hb298
            refine seg 6 [.co [1, 1, 1, 1, 0, 1, 0, 0, 1, 1, 0, 0, 1, 1, 1, 1, 1, 0, 1], .bl 3, .co [1, 1, 1, 1, 0, 1, 0, 0, 1, 1, 1], .le 1, .bl 2, .le 0, .co [1, 1, 1, 1, 1]] [(2, .slice none 0 0), (3, .int .i64 2)] (by kernel_rfl) ?_
            have H := H.nilR rU8 5
            refine retR [2, 3] [.slice none 0 0, .int .i64 2] (by kernel_rfl) (by kernel_rfl) (by kernel_rfl) ?_
            obtain rfl : ([], 2) = r := (hfr242 _ (hfin280 _ (Option.some.inj hb_280).symm).symm)
            exact ⟨_, rfl, none, 0, mk291, rfl, (St.takeN 1 H)⟩
          · rw [hb298]
            have p298 := of_decide_eq_false hb298
            refine seg 7 [.le 1, .bl 2, .le 0, .co [1, 1, 1, 1, 1]] [(7, .slice A297 b2.length c297), (26, .slice A0_0 l_.length c0_0), (27, .int .i64 (l_.length : Int)), (28, .int .i64 (IntKind.i64.wrap ((t1 : Int) + 1)))] (by kernel_rfl) ?_
            have := s0_0.bound
            rw [show IntKind.i64.wrap ((t1 : Int) + 1) = ((t1 : Int) + 1) from w64 (by omega)]
            refine leR (nk280, b2, (t1 + 1), A297, c297, mk291) (Nat.lt_succ_self _) ⟨hnx280 _ (Option.some.inj hb_280).symm, H, ((hsub281.trans hsub287).trans hsub291)⟩ (by kernel_rfl)
      · rw [hb282]
        have p282 := of_decide_eq_false hb282
        refine seg 2 [.le 0, .co [1, 1, 1, 1, 1]] [(7, .slice A_1_281 b.length c_2_281)] (by kernel_rfl) ?_
        refine leR_up (k' := []) (by rfl) ?_
        refine leJ (b, A_1_281, c_2_281, mm281) ⟨(hfin280 _ (Option.some.inj hb_280).symm).symm, H, hsub281⟩ (by kernel_rfl)
    rintro ⟨b, A_1_243, c_2_243, mm243⟩ wj242 ⟨hy242, H, hsub243⟩
    try dsimp only at hy242
    try dsimp only at H
    try dsimp only at hsub243
    have hf := hfl242 _ hy242
    refine seg 6 [.co [1, 1, 1, 1, 1, 1]] [(2, .slice A_1_243 b.length c_2_243), (3, .int .i64 0)] (by kernel_rfl) ?_
    refine retR [2, 3] [.slice A_1_243 b.length c_2_243, .int .i64 0] (by kernel_rfl) (by kernel_rfl) (by kernel_rfl) ?_
    obtain rfl : (b, 0) = r := (Option.some.inj hf)
    exact ⟨_, rfl, A_1_243, c_2_243, mm243, rfl, H⟩
theorem law31_num_c {m : Mem} {w : World} (hm : Has m w) (e_ : Int) :
    Calls Tryd.prog 9 #[.int .i64 e_] w fun e w' => ∃ v, e = .returned v ∧ v = .int .i64 (law31_num e_) ∧ Ex w w' := by
  generalize hf : law31_num e_ = r
  unfold law31_num at hf
  have H := St.start0 hm
  refine callsR Tryd.func9 (by kernel_rfl) (by kernel_rfl) ?_
  refine seg 9 [.co [1, 1]] [(2, .int .i64 e_)] (by kernel_rfl) ?_
  refine retR [2] [.int .i64 e_] (by kernel_rfl) (by kernel_rfl) (by kernel_rfl) ?_
  have hret := hf
  subst hret
  exact ⟨_, rfl, rfl, H.scalar⟩
theorem law31_live_c {m : Mem} {w : World} (hm : Has m w) (hG1 : TabM m 1 (tab0.map fU64)) (hG3 : TabM m 3 (tab2.map fU8)) {r : Bool} (hf : law31_live = some r) :
    Calls Tryd.prog 7 #[] w fun e w' => ∃ v, e = .returned v ∧ v = .bool r ∧ Ex w w' := by
  unfold law31_live at hf
  have H := St.start0 hm
  refine callsR Tryd.func7 (by kernel_rfl) (by kernel_rfl) ?_
  refine seg 6 [.op [1, 0] 0, .co [1, 1]] [] (by kernel_rfl) ?_
  refine st (newS (some 4) (fun g => .slice (some ⟨g, 0, none⟩) 2 2) [.int .u8 1, .int .u8 255] 5 H (by kernel_rfl) ?_)
  intro g1 w1 H
  refine seg 4 [.op [1, 0] 5, .co [1, 1]] [(6, .agg #[.int .i64 5, .int .i64 0, .int .u64 0, .slice none 0 0, .int .i64 3, .slice (some ⟨g1, 0, none⟩) 2 2, .int .i64 0, .int .i64 0, .int .i64 0, .int .i64 0, .string ⟨([] : List UInt8).toArray⟩, .bool false]), (8, .agg #[.int .i64 7, .int .i64 0, .int .u64 0, .slice none 0 0, .int .i64 0, .slice none 0 0, .int .i64 5, .int .i64 1, .int .i64 0, .int .i64 9, .string ⟨([] : List UInt8).toArray⟩, .bool false])] (by kernel_rfl) ?_
  refine st (newS (some 9) (fun g => .slice (some ⟨g, 0, none⟩) 2 2) [.int .i64 5, .int .i64 0, .int .u64 0, .slice none 0 0, .int .i64 3, .slice (some ⟨g1, 0, none⟩) 2 2, .int .i64 0, .int .i64 0, .int .i64 0, .int .i64 0, .string ⟨([] : List UInt8).toArray⟩, .bool false, .int .i64 7, .int .i64 0, .int .u64 0, .slice none 0 0, .int .i64 0, .slice none 0 0, .int .i64 5, .int .i64 1, .int .i64 0, .int .i64 9, .string ⟨([] : List UInt8).toArray⟩, .bool false] 29 H (by kernel_rfl) ?_)
  intro g2 w2 H
  have H := H.toRow (r := rU8) (l := [(1 : UInt8), (255 : UInt8)]) 1 rfl (Rows.u8.2 rfl) (Nat.le_of_ble_eq_true rfl)
  obtain ⟨mf3, hsub3, hsf3, H⟩ := H.fixR 1 rfl
  have H := H.toRow (r := rApiAct) (l := [({ Do := 5, Len := 0, Sum := (0 : UInt64), Bytes := [], Crash := ({ After := 3, Torn := [(1 : UInt8), (255 : UInt8)] } : TApiCrash), Call := ({ Do := 0, Ino := 0, A := 0, B := 0, Name := ([] : List UInt8), On := false } : TApiCall) } : TApiAct), ({ Do := 7, Len := 0, Sum := (0 : UInt64), Bytes := [], Crash := ({ After := 0, Torn := [] } : TApiCrash), Call := ({ Do := 5, Ino := 1, A := 0, B := 9, Name := ([] : List UInt8), On := false } : TApiCall) } : TApiAct)]) 0 rfl (Rows.cons (cs := [.int .i64 5, .int .i64 0, .int .u64 0, .slice none 0 0, .int .i64 3, .slice (some ⟨g1, 0, none⟩) 2 2, .int .i64 0, .int .i64 0, .int .i64 0, .int .i64 0, .string ⟨([] : List UInt8).toArray⟩, .bool false]) ⟨none, 0, (some ⟨g1, 0, none⟩), 2, rfl, (SlI.nil _ _), hsf3, (Nat.le_of_ble_eq_true rfl)⟩ (Rows.cons (cs := [.int .i64 7, .int .i64 0, .int .u64 0, .slice none 0 0, .int .i64 0, .slice none 0 0, .int .i64 5, .int .i64 1, .int .i64 0, .int .i64 9, .string ⟨([] : List UInt8).toArray⟩, .bool false]) ⟨none, 0, none, 0, rfl, (SlI.nil _ _), (SlI.nil _ _), (Nat.le_of_ble_eq_true rfl)⟩ Rows.nil)) (Nat.le_of_ble_eq_true rfl)
  have H0_4 := H
  obtain ⟨mf5, hsub5, hsf5, H⟩ := H.fixR 0 rfl
  obtain ⟨print, h_print, hf⟩ := bindE hf
  refine st (callR (some 10) 14 #[.slice (some ⟨g2, 0, none⟩) 2 2] Tryd.call14 (script_Print_c H.has (hG1.mono (hsub3.trans hsub5)) (hG3.mono (hsub3.trans hsub5)) [({ Do := 5, Len := 0, Sum := (0 : UInt64), Bytes := [], Crash := ({ After := 3, Torn := [(1 : UInt8), (255 : UInt8)] } : TApiCrash), Call := ({ Do := 0, Ino := 0, A := 0, B := 0, Name := ([] : List UInt8), On := false } : TApiCall) } : TApiAct), ({ Do := 7, Len := 0, Sum := (0 : UInt64), Bytes := [], Crash := ({ After := 0, Torn := [] } : TApiCrash), Call := ({ Do := 5, Ino := 1, A := 0, B := 9, Name := ([] : List UInt8), On := false } : TApiCall) } : TApiAct)] (some ⟨g2, 0, none⟩) 2 hsf5 h_print) (by kernel_rfl) ?_)
  rintro _ w6 ⟨A6_0, c6_0, mk6, rfl, hS6⟩
  replace H := H0_4.callB hS6 ⟨rowI_ind (fun _ _ _ _ h => h), trivial⟩
  refine seg 9 [.op [1, 1, 0] 1, .co [1, 1, 1]] [(1, .slice A6_0 print.1.length c6_0), (13, .int .i64 print.2)] (by kernel_rfl) ?_
  refine st (callR (some 14) 9 #[.int .i64 print.2] Tryd.call9 (law31_num_c H.has print.2) (by kernel_rfl) ?_)
  rintro _ w11 ⟨rfl, hx11⟩
  replace H := H.ex hx11
  refine seg 2 [.op [1, 1, 0] 4, .co [1, 1, 1]] [(1, .slice A6_0 print.1.length c6_0), (16, .bool ((law31_num print.2) == 0))] (by kernel_rfl) ?_
  rcases condT hf with ⟨hb12, hf⟩ | ⟨hb12, hf⟩
  · rw [hb12]
    refine seg 1 [.op [1, 1, 0] 5, .co [1, 1, 1]] [(16, .bool true), (17, .slice A6_0 print.1.length c6_0)] (by kernel_rfl) ?_
    refine st (b2sS (some 18) 23 9 5 A6_0 c6_0 print.1 Tryd.underlying23 Tryd.underlying5 Tryd.underlying9 (by kernel_rfl) (H.rowCs 0 rfl) ?_)
    have hl13 : print.1.length ≤ 9223372036854775807 := (Nat.le_trans (H.rowCap 0 rfl).1 (H.rowCap 0 rfl).2)
    refine seg 4 [.co [1, 1, 1]] [(0, .bool ((ByteArray.toList ⟨print.1.toArray⟩) == (ByteArray.toList ⟨([97, 114, 109, 32, 51, 32, 48, 49, 102, 102, 10, 114, 101, 97, 100, 32, 49, 32, 48, 32, 57, 10] : List UInt8).toArray⟩)))] (by kernel_rfl) ?_
    rw [seq_raw print.1 ([97, 114, 109, 32, 51, 32, 48, 49, 102, 102, 10, 114, 101, 97, 100, 32, 49, 32, 48, 32, 57, 10] : List UInt8)]
    refine retR [0] [.bool (print.1 == ([97, 114, 109, 32, 51, 32, 48, 49, 102, 102, 10, 114, 101, 97, 100, 32, 49, 32, 48, 32, 57, 10] : List UInt8))] (by kernel_rfl) (by kernel_rfl) (by kernel_rfl) ?_
    obtain rfl : (print.1 == ([97, 114, 109, 32, 51, 32, 48, 49, 102, 102, 10, 114, 101, 97, 100, 32, 49, 32, 48, 32, 57, 10] : List UInt8)) = r := (Option.some.inj hf)
    exact ⟨_, rfl, rfl, H.scalar⟩
  · rw [hb12]
    refine seg 6 [.co [1, 1, 1]] [(0, .bool false)] (by kernel_rfl) ?_
    refine retR [0] [.bool false] (by kernel_rfl) (by kernel_rfl) (by kernel_rfl) ?_
    have hret := (Option.some.inj hf)
    subst hret
    exact ⟨_, rfl, rfl, H.scalar⟩
theorem ref31_three_c {m : Mem} {w : World} (hm : Has m w) (do_ : Int) :
    Calls Tryd.prog 22 #[.int .i64 do_] w fun e w' => ∃ v, e = .returned v ∧ v = .bool (ref31_three do_) ∧ Ex w w' := by
  generalize hf : ref31_three do_ = r
  unfold ref31_three at hf
  have H := St.start0 hm
  refine callsR Tryd.func22 (by kernel_rfl) (by kernel_rfl) ?_
  refine seg 9 [.op [1, 0] 3, .co [1, 1]] [(0, .int .i64 do_), (5, .bool (do_ == 3))] (by kernel_rfl) ?_
  rcases condT hf with ⟨hb2, hf⟩ | ⟨hb2, hf⟩
  · rw [hb2]
    refine seg 5 [.co [1, 1]] [(2, .bool true)] (by kernel_rfl) ?_
    refine retR [2] [.bool true] (by kernel_rfl) (by kernel_rfl) (by kernel_rfl) ?_
    have hret := hf
    subst hret
    exact ⟨_, rfl, rfl, H.scalar⟩
  · rw [hb2]
    refine seg 5 [.co [1, 1]] [(2, .bool (do_ == 5))] (by kernel_rfl) ?_
    refine retR [2] [.bool (do_ == 5)] (by kernel_rfl) (by kernel_rfl) (by kernel_rfl) ?_
    obtain rfl : (do_ == 5) = r := hf
    exact ⟨_, rfl, rfl, H.scalar⟩
theorem ref31_named_c {m : Mem} {w : World} (hm : Has m w) (do_ : Int) :
    Calls Tryd.prog 23 #[.int .i64 do_] w fun e w' => ∃ v, e = .returned v ∧ v = .bool (ref31_named do_) ∧ Ex w w' := by
  generalize hf : ref31_named do_ = r
  unfold ref31_named at hf
  have H := St.start0 hm
  refine callsR Tryd.func23 (by kernel_rfl) (by kernel_rfl) ?_
  refine seg 9 [.op [1, 0] 3, .co [1, 1]] [(0, .int .i64 do_), (5, .bool (do_ == 1))] (by kernel_rfl) ?_
  rcases condT hf with ⟨hb3, hf⟩ | ⟨hb3, hf⟩
  · rw [hb3]
    refine seg 9 [.co [1, 1]] [(2, .bool true)] (by kernel_rfl) ?_
    refine retR [2] [.bool true] (by kernel_rfl) (by kernel_rfl) (by kernel_rfl) ?_
    have hret := hf
    subst hret
    exact ⟨_, rfl, rfl, H.scalar⟩
  · rw [hb3]
    refine seg 4 [.op [1, 0] 7, .co [1, 1]] [(0, .int .i64 do_), (9, .bool (do_ == 7))] (by kernel_rfl) ?_
    rcases condT hf with ⟨hb4, hf⟩ | ⟨hb4, hf⟩
    · rw [hb4]
      refine seg 5 [.co [1, 1]] [(2, .bool true)] (by kernel_rfl) ?_
      refine retR [2] [.bool true] (by kernel_rfl) (by kernel_rfl) (by kernel_rfl) ?_
      have hret := hf
      subst hret
      exact ⟨_, rfl, rfl, H.scalar⟩
    · rw [hb4]
      refine seg 5 [.co [1, 1]] [(2, .bool (do_ == 8))] (by kernel_rfl) ?_
      refine retR [2] [.bool (do_ == 8)] (by kernel_rfl) (by kernel_rfl) (by kernel_rfl) ?_
      obtain rfl : (do_ == 8) = r := hf
      exact ⟨_, rfl, rfl, H.scalar⟩
theorem ref31_Plain_c {m : Mem} {w : World} (hm : Has m w) (a : TApiAct) (A0_3 : Option Addr) (c0_3 : Nat) (s0_3 : SlI rU8 m A0_3 c0_3 a.Bytes) (A0_5 : Option Addr) (c0_5 : Nat) (s0_5 : SlI rU8 m A0_5 c0_5 a.Crash.Torn) (l0_10 : a.Call.Name.length ≤ 9223372036854775807) {r : TApiAct} (hf : ref31_Plain a = some r) :
    Calls Tryd.prog 13 #[.agg #[.int .i64 a.Do, .int .i64 a.Len, .int .u64 (a.Sum.toNat : Int), .slice A0_3 a.Bytes.length c0_3, .int .i64 a.Crash.After, .slice A0_5 a.Crash.Torn.length c0_5, .int .i64 a.Call.Do, .int .i64 a.Call.Ino, .int .i64 a.Call.A, .int .i64 a.Call.B, .string ⟨a.Call.Name.toArray⟩, .bool a.Call.On]] w fun e w' => ∃ v, e = .returned v ∧ ∃ Az_0_3 : Option Addr, ∃ cz_0_3 : Nat, ∃ Az_0_5 : Option Addr, ∃ cz_0_5 : Nat, ∃ m' : Mem, v = .agg #[.int .i64 r.Do, .int .i64 r.Len, .int .u64 (r.Sum.toNat : Int), .slice Az_0_3 r.Bytes.length cz_0_3, .int .i64 r.Crash.After, .slice Az_0_5 r.Crash.Torn.length cz_0_5, .int .i64 r.Call.Do, .int .i64 r.Call.Ino, .int .i64 r.Call.A, .int .i64 r.Call.B, .string ⟨r.Call.Name.toArray⟩, .bool r.Call.On] ∧ St w noF m m' [] w' ∧ SlI rU8 m' Az_0_3 cz_0_3 r.Bytes ∧ SlI rU8 m' Az_0_5 cz_0_5 r.Crash.Torn ∧ r.Call.Name.length ≤ 9223372036854775807 := by
  unfold ref31_Plain at hf
  have H := St.start0 hm
  refine callsR Tryd.func13 (by kernel_rfl) (by kernel_rfl) ?_
  refine seg 2 [.op [0] 0, .co [1]] [(0, .agg #[.int .i64 a.Do, .int .i64 a.Len, .int .u64 (a.Sum.toNat : Int), .slice A0_3 a.Bytes.length c0_3, .int .i64 a.Crash.After, .slice A0_5 a.Crash.Torn.length c0_5, .int .i64 a.Call.Do, .int .i64 a.Call.Ino, .int .i64 a.Call.A, .int .i64 a.Call.B, .string ⟨a.Call.Name.toArray⟩, .bool a.Call.On])] (by kernel_rfl) ?_
  refine st (newS (some 1) (fun g => .pointer (some ⟨g, 0, none⟩)) [.int .i64 a.Do, .int .i64 a.Len, .int .u64 (a.Sum.toNat : Int), .slice A0_3 a.Bytes.length c0_3, .int .i64 a.Crash.After, .slice A0_5 a.Crash.Torn.length c0_5, .int .i64 a.Call.Do, .int .i64 a.Call.Ino, .int .i64 a.Call.A, .int .i64 a.Call.B, .string ⟨a.Call.Name.toArray⟩, .bool a.Call.On] 29 H (by kernel_rfl) ?_)
  intro g1 w1 H
  refine st (newS (some 2) (fun g => .pointer (some ⟨g, 0, none⟩)) [.int .i64 0, .int .i64 0, .int .u64 0, .slice none 0 0, .int .i64 0, .slice none 0 0, .int .i64 0, .int .i64 0, .int .i64 0, .int .i64 0, .string ⟨([] : List UInt8).toArray⟩, .bool false] 29 H (by kernel_rfl) ?_)
  intro g2 w2 H
  refine seg 4 [.op [1, 0] 1, .co [1, 1]] [(1, .pointer (some (⟨g1, 0, none⟩))), (2, .pointer (some (⟨g2, 0, none⟩))), (5, .pointer (some (⟨g1, 0, none⟩)))] (by kernel_rfl) ?_
  refine st (ldR (some 6) 3 (⟨g1, 0, none⟩) (.int .i64 a.Do) (by kernel_rfl) (by kernel_rfl) (H.cellB 1 rfl rfl) ?_)
  refine seg 1 [.op [1, 0] 3, .co [1, 1]] [(1, .pointer (some (⟨g1, 0, none⟩))), (2, .pointer (some (⟨g2, 0, none⟩))), (7, .agg #[.int .i64 a.Do, .int .i64 0, .int .u64 0, .slice none 0 0, .int .i64 0, .slice none 0 0, .int .i64 0, .int .i64 0, .int .i64 0, .int .i64 0, .string ⟨([] : List UInt8).toArray⟩, .bool false])] (by kernel_rfl) ?_
  refine st (newS (some 3) (fun g => .pointer (some ⟨g, 0, none⟩)) [.int .i64 0, .int .i64 0, .int .u64 0, .slice none 0 0, .int .i64 0, .slice none 0 0, .int .i64 0, .int .i64 0, .int .i64 0, .int .i64 0, .string ⟨([] : List UInt8).toArray⟩, .bool false] 29 H (by kernel_rfl) ?_)
  intro g3 w3 H
  refine st (stAggS none 29 0 g3 0 [.int .i64 a.Do, .int .i64 0, .int .u64 0, .slice none 0 0, .int .i64 0, .slice none 0 0, .int .i64 0, .int .i64 0, .int .i64 0, .int .i64 0, .string ⟨([] : List UInt8).toArray⟩, .bool false] [.int .i64 0, .int .i64 0, .int .u64 0, .slice none 0 0, .int .i64 0, .slice none 0 0, .int .i64 0, .int .i64 0, .int .i64 0, .int .i64 0, .string ⟨([] : List UInt8).toArray⟩, .bool false] [.int .i64 a.Do, .int .i64 0, .int .u64 0, .slice none 0 0, .int .i64 0, .slice none 0 0, .int .i64 0, .int .i64 0, .int .i64 0, .int .i64 0, .string ⟨([] : List UInt8).toArray⟩, .bool false] 29 H rfl (by kernel_rfl) (by kernel_rfl) (by rfl) (of_decide_eq_true rfl) rfl ?_)
  intro w4 H
  refine seg 5 [.op [1, 1, 0, 0] 1, .co [1, 1, 0, 1], .co [1, 1, 1]] [(1, .pointer (some (⟨g1, 0, none⟩))), (2, .pointer (some (⟨g2, 0, none⟩))), (3, .pointer (some (⟨g3, 0, none⟩))), (8, .pointer (some (⟨g1, 0, none⟩)))] (by kernel_rfl) ?_
  replace H : St w noF m m [blkI g3 [.int .i64 a.Do, .int .i64 0, .int .u64 0, .slice none 0 0, .int .i64 0, .slice none 0 0, .int .i64 0, .int .i64 0, .int .i64 0, .int .i64 0, .string ⟨([] : List UInt8).toArray⟩, .bool false] 29, blkI g2 [.int .i64 0, .int .i64 0, .int .u64 0, .slice none 0 0, .int .i64 0, .slice none 0 0, .int .i64 0, .int .i64 0, .int .i64 0, .int .i64 0, .string ⟨([] : List UInt8).toArray⟩, .bool false] 29, blkI g1 [.int .i64 a.Do, .int .i64 a.Len, .int .u64 (a.Sum.toNat : Int), .slice A0_3 a.Bytes.length c0_3, .int .i64 a.Crash.After, .slice A0_5 a.Crash.Torn.length c0_5, .int .i64 a.Call.Do, .int .i64 a.Call.Ino, .int .i64 a.Call.A, .int .i64 a.Call.B, .string ⟨a.Call.Name.toArray⟩, .bool a.Call.On] 29] w4 := H
  refine st (ldR (some 9) 3 (⟨g1, 0, none⟩) (.int .i64 a.Do) (by kernel_rfl) (by kernel_rfl) (H.cellB 2 rfl rfl) ?_)
  refine seg 1 [.co [1, 1, 0, 1], .co [1, 1, 1]] [(1, .pointer (some (⟨g1, 0, none⟩))), (2, .pointer (some (⟨g2, 0, none⟩))), (3, .pointer (some (⟨g3, 0, none⟩))), (9, .int .i64 a.Do)] (by kernel_rfl) ?_
  obtain ⟨y236, hp236, hfl236, hfr236⟩ := bndE hf
  refine joinR 0 (fun (x : Int × UInt64 × (List UInt8) × Int × (List UInt8) × Int × Int × Int × Int × (List UInt8) × Bool × Option Addr × Nat × Option Addr × Nat × Mem) => [(2, .pointer (some (⟨g2, 0, none⟩))), (3, .pointer (some (⟨g3, 0, none⟩)))]) (fun (x : Int × UInt64 × (List UInt8) × Int × (List UInt8) × Int × Int × Int × Int × (List UInt8) × Bool × Option Addr × Nat × Option Addr × Nat × Mem) (wj236 : World) => y236 = .inl (x.1, x.2.1, x.2.2.1, x.2.2.2.1, x.2.2.2.2.1, x.2.2.2.2.2.1, x.2.2.2.2.2.2.1, x.2.2.2.2.2.2.2.1, x.2.2.2.2.2.2.2.2.1, x.2.2.2.2.2.2.2.2.2.1, x.2.2.2.2.2.2.2.2.2.2.1) ∧ St w noF m x.2.2.2.2.2.2.2.2.2.2.2.2.2.2.2 [blkI g2 [.int .i64 0, .int .i64 0, .int .u64 0, .slice none 0 0, .int .i64 0, .slice none 0 0, .int .i64 0, .int .i64 0, .int .i64 0, .int .i64 0, .string ⟨([] : List UInt8).toArray⟩, .bool false] 29, blkI g3 [.int .i64 a.Do, .int .i64 x.1, .int .u64 (x.2.1.toNat : Int), .slice (x.2.2.2.2.2.2.2.2.2.2.2.1) x.2.2.1.length (x.2.2.2.2.2.2.2.2.2.2.2.2.1), .int .i64 x.2.2.2.1, .slice (x.2.2.2.2.2.2.2.2.2.2.2.2.2.1) x.2.2.2.2.1.length (x.2.2.2.2.2.2.2.2.2.2.2.2.2.2.1), .int .i64 x.2.2.2.2.2.1, .int .i64 x.2.2.2.2.2.2.1, .int .i64 x.2.2.2.2.2.2.2.1, .int .i64 x.2.2.2.2.2.2.2.2.1, .string ⟨x.2.2.2.2.2.2.2.2.2.1.toArray⟩, .bool x.2.2.2.2.2.2.2.2.2.2.1] 29] wj236 ∧ Sub m x.2.2.2.2.2.2.2.2.2.2.2.2.2.2.2 ∧ SlI rU8 x.2.2.2.2.2.2.2.2.2.2.2.2.2.2.2 x.2.2.2.2.2.2.2.2.2.2.2.1 x.2.2.2.2.2.2.2.2.2.2.2.2.1 x.2.2.1 ∧ SlI rU8 x.2.2.2.2.2.2.2.2.2.2.2.2.2.2.2 x.2.2.2.2.2.2.2.2.2.2.2.2.2.1 x.2.2.2.2.2.2.2.2.2.2.2.2.2.2.1 x.2.2.2.2.1 ∧ x.2.2.2.2.2.2.2.2.2.1.length ≤ 9223372036854775807) (by kernel_rfl) ?_ ?_
  · refine seg 6 [.co [1, 1, 0, 1, 0, 1], .bl 0, .le 0, .co [1, 1, 1]] [(1, .pointer (some (⟨g1, 0, none⟩))), (2, .pointer (some (⟨g2, 0, none⟩))), (3, .pointer (some (⟨g3, 0, none⟩))), (9, .int .i64 a.Do), (11, .bool (a.Do == 1))] (by kernel_rfl) ?_
    rcases condT hp236 with ⟨hb238, hp236⟩ | ⟨hb238, hp236⟩
    · rw [hb238]
      refine seg 1 [.co [1, 1, 0, 1, 0, 1, 0], .bl 0, .le 0, .co [1, 1, 1]] [(1, .pointer (some (⟨g1, 0, none⟩))), (2, .pointer (some (⟨g2, 0, none⟩))), (3, .pointer (some (⟨g3, 0, none⟩)))] (by kernel_rfl) ?_
      have hst : statB (bodyOf Tryd.f13) [1, 1, 0, 1, 0, 1, 0] = true := by kernel_rfl
      refine drawS (fun w' => Has m w' ∧ w'.heap[g2]? = some (.cells [.int .i64 0, .int .i64 0, .int .u64 0, .slice none 0 0, .int .i64 0, .slice none 0 0, .int .i64 0, .int .i64 0, .int .i64 0, .int .i64 0, .string ⟨([] : List UInt8).toArray⟩, .bool false].toArray 29 (0, 0)) ∧ w'.heap[g1]? = some (.cells [.int .i64 a.Do, .int .i64 a.Len, .int .u64 (a.Sum.toNat : Int), .slice A0_3 a.Bytes.length c0_3, .int .i64 a.Crash.After, .slice A0_5 a.Crash.Torn.length c0_5, .int .i64 a.Call.Do, .int .i64 a.Call.Ino, .int .i64 a.Call.A, .int .i64 a.Call.B, .string ⟨a.Call.Name.toArray⟩, .bool a.Call.On].toArray 29 (0, 0))) H (by kernel_rfl) (by kernel_rfl) ?_
      intro w241 H
      refine segD2 hst [0, 2] [0, 2] [(2, .pointer (some (⟨g2, 0, none⟩))), (3, .pointer (some (⟨g3, 0, none⟩))), (13, .pointer (some (⟨g1, 1, none⟩))), (15, .pointer (some (⟨g1, 2, none⟩)))] (by kernel_rfl) ?_
      refine takeD2 (i := 1) (d := (some 14)) (s := vS (Instr.loadAt 3 (.pointer (some (⟨g1, 1, none⟩))))) (v := (.int .i64 a.Len)) hst (by kernel_rfl) (by kernel_rfl) (fun w' hw' => ld_run _ _ _ (by kernel_rfl) (blk_cell hw'.2.2 rfl)) ?_
      refine segD2 hst [4] [0, 2, 1, 4] [(2, .pointer (some (⟨g2, 0, none⟩))), (3, .pointer (some (⟨g3, 0, none⟩))), (14, .int .i64 a.Len), (15, .pointer (some (⟨g1, 2, none⟩))), (17, .pointer (some (⟨g3, 1, none⟩)))] (by kernel_rfl) ?_
      refine takeD2 (i := 3) (d := (some 16)) (s := vS (Instr.loadAt 22 (.pointer (some (⟨g1, 2, none⟩))))) (v := (.int .u64 (a.Sum.toNat : Int))) hst (by kernel_rfl) (by kernel_rfl) (fun w' hw' => ld_run _ _ _ (by kernel_rfl) (blk_cell hw'.2.2 rfl)) ?_
      refine stD2 (i := 5) (by kernel_rfl) ⟨H.has, H.blk 1 rfl, H.blk 2 rfl⟩ (stS none 3 0 g3 1 (.int .i64 a.Len) [.int .i64 a.Do, .int .i64 0, .int .u64 0, .slice none 0 0, .int .i64 0, .slice none 0 0, .int .i64 0, .int .i64 0, .int .i64 0, .int .i64 0, .string ⟨([] : List UInt8).toArray⟩, .bool false] 29 H rfl (by kernel_rfl) (by kernel_rfl) rfl (of_decide_eq_true rfl) ?_)
      intro w242 H
      refine segD2 hst [6] [0, 2, 1, 4, 3, 5, 6] [(2, .pointer (some (⟨g2, 0, none⟩))), (3, .pointer (some (⟨g3, 0, none⟩))), (16, .int .u64 (a.Sum.toNat : Int)), (18, .pointer (some (⟨g3, 2, none⟩)))] (by kernel_rfl) ?_
      replace H : St w noF m m [blkI g3 [.int .i64 a.Do, .int .i64 a.Len, .int .u64 0, .slice none 0 0, .int .i64 0, .slice none 0 0, .int .i64 0, .int .i64 0, .int .i64 0, .int .i64 0, .string ⟨([] : List UInt8).toArray⟩, .bool false] 29, blkI g2 [.int .i64 0, .int .i64 0, .int .u64 0, .slice none 0 0, .int .i64 0, .slice none 0 0, .int .i64 0, .int .i64 0, .int .i64 0, .int .i64 0, .string ⟨([] : List UInt8).toArray⟩, .bool false] 29, blkI g1 [.int .i64 a.Do, .int .i64 a.Len, .int .u64 (a.Sum.toNat : Int), .slice A0_3 a.Bytes.length c0_3, .int .i64 a.Crash.After, .slice A0_5 a.Crash.Torn.length c0_5, .int .i64 a.Call.Do, .int .i64 a.Call.Ino, .int .i64 a.Call.A, .int .i64 a.Call.B, .string ⟨a.Call.Name.toArray⟩, .bool a.Call.On] 29] w242 := H
      refine stD2 (i := 7) (by kernel_rfl) ⟨H.has, H.blk 1 rfl, H.blk 2 rfl⟩ (stS none 22 0 g3 2 (.int .u64 (a.Sum.toNat : Int)) [.int .i64 a.Do, .int .i64 a.Len, .int .u64 0, .slice none 0 0, .int .i64 0, .slice none 0 0, .int .i64 0, .int .i64 0, .int .i64 0, .int .i64 0, .string ⟨([] : List UInt8).toArray⟩, .bool false] 29 H rfl (by kernel_rfl) (by kernel_rfl) rfl (of_decide_eq_true rfl) ?_)
      intro w243 H
      refine endD2 (by kernel_rfl) ⟨H.has, H.blk 1 rfl, H.blk 2 rfl⟩ ?_
      refine seg 1 [.le 0, .co [1, 1, 1]] [(2, .pointer (some (⟨g2, 0, none⟩))), (3, .pointer (some (⟨g3, 0, none⟩)))] (by kernel_rfl) ?_
      refine leJ (a.Len, a.Sum, [], 0, [], 0, 0, 0, 0, ([] : List UInt8), false, none, 0, none, 0, m) ⟨(Option.some.inj hp236).symm, (St.takeN 2 (H.pull 1 rfl)), (Sub.refl _), (SlI.nil _ _), (SlI.nil _ _), (Nat.le_of_ble_eq_true rfl)⟩ (by kernel_rfl)
    · rw [hb238]
      refine seg 6 [.co [1, 1, 0, 1, 0, 1, 1, 1], .bl 0, .le 0, .co [1, 1, 1]] [(1, .pointer (some (⟨g1, 0, none⟩))), (2, .pointer (some (⟨g2, 0, none⟩))), (3, .pointer (some (⟨g3, 0, none⟩))), (9, .int .i64 a.Do), (19, .bool (a.Do == 2))] (by kernel_rfl) ?_
      rcases condT hp236 with ⟨hb244, hp236⟩ | ⟨hb244, hp236⟩
      · rw [hb244]
        refine seg 3 [.op [1, 1, 0, 1, 0, 1, 1, 1, 0] 1, .bl 0, .le 0, .co [1, 1, 1]] [(2, .pointer (some (⟨g2, 0, none⟩))), (3, .pointer (some (⟨g3, 0, none⟩))), (21, .pointer (some (⟨g1, 3, none⟩)))] (by kernel_rfl) ?_
        refine st (ldR (some 22) 23 (⟨g1, 3, none⟩) (.slice A0_3 a.Bytes.length c0_3) (by kernel_rfl) (by kernel_rfl) (H.cellB 2 rfl rfl) ?_)
        refine seg 1 [.op [1, 1, 0, 1, 0, 1, 1, 1, 0] 3, .bl 0, .le 0, .co [1, 1, 1]] [(2, .pointer (some (⟨g2, 0, none⟩))), (3, .pointer (some (⟨g3, 0, none⟩))), (22, .slice A0_3 a.Bytes.length c0_3), (23, .pointer (some (⟨g3, 3, none⟩)))] (by kernel_rfl) ?_
        refine st (stS none 23 0 g3 3 (.slice A0_3 a.Bytes.length c0_3) [.int .i64 a.Do, .int .i64 0, .int .u64 0, .slice none 0 0, .int .i64 0, .slice none 0 0, .int .i64 0, .int .i64 0, .int .i64 0, .int .i64 0, .string ⟨([] : List UInt8).toArray⟩, .bool false] 29 H rfl (by kernel_rfl) (by kernel_rfl) rfl (of_decide_eq_true rfl) ?_)
        intro w245 H
        refine seg 2 [.le 0, .co [1, 1, 1]] [(2, .pointer (some (⟨g2, 0, none⟩))), (3, .pointer (some (⟨g3, 0, none⟩)))] (by kernel_rfl) ?_
        refine leJ (0, (0 : UInt64), a.Bytes, 0, [], 0, 0, 0, 0, ([] : List UInt8), false, A0_3, c0_3, none, 0, m) ⟨(Option.some.inj hp236).symm, (St.takeN 2 (H.pull 1 rfl)), (Sub.refl _), s0_3, (SlI.nil _ _), (Nat.le_of_ble_eq_true rfl)⟩ (by kernel_rfl)
      · rw [hb244]
        refine seg 7 [.co [1, 1, 0, 1, 0, 1, 1, 1, 1, 0, 1], .co [1, 1, 0, 1, 0, 1, 1, 1, 1, 1], .bl 0, .le 0, .co [1, 1, 1]] [(1, .pointer (some (⟨g1, 0, none⟩))), (2, .pointer (some (⟨g2, 0, none⟩))), (3, .pointer (some (⟨g3, 0, none⟩))), (9, .int .i64 a.Do), (24, .bool (a.Do == 3))] (by kernel_rfl) ?_
        rcases condT hp236 with ⟨hb246, hp236⟩ | ⟨hb246, hp236⟩
        · rw [hb246]
          refine seg 5 [.op [1, 1, 0, 1, 0, 1, 1, 1, 1, 1, 0, 0] 0, .co [1, 1, 0, 1, 0, 1, 1, 1, 1, 1, 0, 1], .bl 0, .le 0, .co [1, 1, 1]] [(2, .pointer (some (⟨g2, 0, none⟩))), (3, .pointer (some (⟨g3, 0, none⟩)))] (by kernel_rfl) ?_
          refine st (ldAggR (some 28) 29 (⟨g3, 0, none⟩) [.int .i64 a.Do, .int .i64 0, .int .u64 0, .slice none 0 0, .int .i64 0, .slice none 0 0, .int .i64 0, .int .i64 0, .int .i64 0, .int .i64 0, .string ⟨([] : List UInt8).toArray⟩, .bool false] (by kernel_rfl) (by kernel_rfl) (H.cellsB 0 rfl (by rfl)) ?_)
          refine st (stAggS none 29 1 g2 0 [.int .i64 a.Do, .int .i64 0, .int .u64 0, .slice none 0 0, .int .i64 0, .slice none 0 0, .int .i64 0, .int .i64 0, .int .i64 0, .int .i64 0, .string ⟨([] : List UInt8).toArray⟩, .bool false] [.int .i64 0, .int .i64 0, .int .u64 0, .slice none 0 0, .int .i64 0, .slice none 0 0, .int .i64 0, .int .i64 0, .int .i64 0, .int .i64 0, .string ⟨([] : List UInt8).toArray⟩, .bool false] [.int .i64 a.Do, .int .i64 0, .int .u64 0, .slice none 0 0, .int .i64 0, .slice none 0 0, .int .i64 0, .int .i64 0, .int .i64 0, .int .i64 0, .string ⟨([] : List UInt8).toArray⟩, .bool false] 29 H rfl (by kernel_rfl) (by kernel_rfl) (by rfl) (of_decide_eq_true rfl) rfl ?_)
          intro w247 H
          refine seg 1 [.co [1, 1, 0, 1, 0, 1, 1, 1, 1, 1, 0, 1], .bl 0, .le 0, .co [1, 1, 1]] [(2, .pointer (some (⟨g2, 0, none⟩)))] (by kernel_rfl) ?_
          refine retC [.agg #[.int .i64 a.Do, .int .i64 0, .int .u64 0, .slice none 0 0, .int .i64 0, .slice none 0 0, .int .i64 0, .int .i64 0, .int .i64 0, .int .i64 0, .string ⟨([] : List UInt8).toArray⟩, .bool false]] (by kernel_rfl) ⟨⟨_, rfl, ldv_agg 29 (⟨g2, 0, none⟩) [.int .i64 a.Do, .int .i64 0, .int .u64 0, .slice none 0 0, .int .i64 0, .slice none 0 0, .int .i64 0, .int .i64 0, .int .i64 0, .int .i64 0, .string ⟨([] : List UInt8).toArray⟩, .bool false] (by kernel_rfl) (H.cellsB 1 rfl (by rfl))⟩, trivial⟩ ?_
          obtain rfl : ({ Do := a.Do, Len := 0, Sum := (0 : UInt64), Bytes := [], Crash := ({ After := 0, Torn := [] } : TApiCrash), Call := ({ Do := 0, Ino := 0, A := 0, B := 0, Name := ([] : List UInt8), On := false } : TApiCall) } : TApiAct) = r := (hfr236 _ (Option.some.inj hp236).symm)
          exact ⟨_, rfl, none, 0, none, 0, m, rfl, (St.takeN 0 H), (SlI.nil _ _), (SlI.nil _ _), (Nat.le_of_ble_eq_true rfl)⟩
        · rw [hb246]
          refine seg 6 [.co [1, 1, 0, 1, 0, 1, 1, 1, 1, 0, 1, 1, 1], .co [1, 1, 0, 1, 0, 1, 1, 1, 1, 1], .bl 0, .le 0, .co [1, 1, 1]] [(1, .pointer (some (⟨g1, 0, none⟩))), (2, .pointer (some (⟨g2, 0, none⟩))), (3, .pointer (some (⟨g3, 0, none⟩))), (9, .int .i64 a.Do), (24, .bool (a.Do == 4))] (by kernel_rfl) ?_
          rcases condT hp236 with ⟨hb248, hp236⟩ | ⟨hb248, hp236⟩
          · rw [hb248]
            refine seg 5 [.op [1, 1, 0, 1, 0, 1, 1, 1, 1, 1, 0, 0] 0, .co [1, 1, 0, 1, 0, 1, 1, 1, 1, 1, 0, 1], .bl 0, .le 0, .co [1, 1, 1]] [(2, .pointer (some (⟨g2, 0, none⟩))), (3, .pointer (some (⟨g3, 0, none⟩)))] (by kernel_rfl) ?_
            refine st (ldAggR (some 28) 29 (⟨g3, 0, none⟩) [.int .i64 a.Do, .int .i64 0, .int .u64 0, .slice none 0 0, .int .i64 0, .slice none 0 0, .int .i64 0, .int .i64 0, .int .i64 0, .int .i64 0, .string ⟨([] : List UInt8).toArray⟩, .bool false] (by kernel_rfl) (by kernel_rfl) (H.cellsB 0 rfl (by rfl)) ?_)
            refine st (stAggS none 29 1 g2 0 [.int .i64 a.Do, .int .i64 0, .int .u64 0, .slice none 0 0, .int .i64 0, .slice none 0 0, .int .i64 0, .int .i64 0, .int .i64 0, .int .i64 0, .string ⟨([] : List UInt8).toArray⟩, .bool false] [.int .i64 0, .int .i64 0, .int .u64 0, .slice none 0 0, .int .i64 0, .slice none 0 0, .int .i64 0, .int .i64 0, .int .i64 0, .int .i64 0, .string ⟨([] : List UInt8).toArray⟩, .bool false] [.int .i64 a.Do, .int .i64 0, .int .u64 0, .slice none 0 0, .int .i64 0, .slice none 0 0, .int .i64 0, .int .i64 0, .int .i64 0, .int .i64 0, .string ⟨([] : List UInt8).toArray⟩, .bool false] 29 H rfl (by kernel_rfl) (by kernel_rfl) (by rfl) (of_decide_eq_true rfl) rfl ?_)
            intro w249 H
            refine seg 1 [.co [1, 1, 0, 1, 0, 1, 1, 1, 1, 1, 0, 1], .bl 0, .le 0, .co [1, 1, 1]] [(2, .pointer (some (⟨g2, 0, none⟩)))] (by kernel_rfl) ?_
            refine retC [.agg #[.int .i64 a.Do, .int .i64 0, .int .u64 0, .slice none 0 0, .int .i64 0, .slice none 0 0, .int .i64 0, .int .i64 0, .int .i64 0, .int .i64 0, .string ⟨([] : List UInt8).toArray⟩, .bool false]] (by kernel_rfl) ⟨⟨_, rfl, ldv_agg 29 (⟨g2, 0, none⟩) [.int .i64 a.Do, .int .i64 0, .int .u64 0, .slice none 0 0, .int .i64 0, .slice none 0 0, .int .i64 0, .int .i64 0, .int .i64 0, .int .i64 0, .string ⟨([] : List UInt8).toArray⟩, .bool false] (by kernel_rfl) (H.cellsB 1 rfl (by rfl))⟩, trivial⟩ ?_
            obtain rfl : ({ Do := a.Do, Len := 0, Sum := (0 : UInt64), Bytes := [], Crash := ({ After := 0, Torn := [] } : TApiCrash), Call := ({ Do := 0, Ino := 0, A := 0, B := 0, Name := ([] : List UInt8), On := false } : TApiCall) } : TApiAct) = r := (hfr236 _ (Option.some.inj hp236).symm)
            exact ⟨_, rfl, none, 0, none, 0, m, rfl, (St.takeN 0 H), (SlI.nil _ _), (SlI.nil _ _), (Nat.le_of_ble_eq_true rfl)⟩
          · rw [hb248]
            refine seg 5 [.co [1, 1, 0, 1, 0, 1, 1, 1, 1, 1], .bl 0, .le 0, .co [1, 1, 1]] [(1, .pointer (some (⟨g1, 0, none⟩))), (2, .pointer (some (⟨g2, 0, none⟩))), (3, .pointer (some (⟨g3, 0, none⟩))), (9, .int .i64 a.Do), (24, .bool (a.Do == 6))] (by kernel_rfl) ?_
            rcases condT hp236 with ⟨hb250, hp236⟩ | ⟨hb250, hp236⟩
            · rw [hb250]
              refine seg 3 [.op [1, 1, 0, 1, 0, 1, 1, 1, 1, 1, 0, 0] 0, .co [1, 1, 0, 1, 0, 1, 1, 1, 1, 1, 0, 1], .bl 0, .le 0, .co [1, 1, 1]] [(2, .pointer (some (⟨g2, 0, none⟩))), (3, .pointer (some (⟨g3, 0, none⟩)))] (by kernel_rfl) ?_
              replace H : St w noF m m [blkI g3 [.int .i64 a.Do, .int .i64 0, .int .u64 0, .slice none 0 0, .int .i64 0, .slice none 0 0, .int .i64 0, .int .i64 0, .int .i64 0, .int .i64 0, .string ⟨([] : List UInt8).toArray⟩, .bool false] 29, blkI g2 [.int .i64 0, .int .i64 0, .int .u64 0, .slice none 0 0, .int .i64 0, .slice none 0 0, .int .i64 0, .int .i64 0, .int .i64 0, .int .i64 0, .string ⟨([] : List UInt8).toArray⟩, .bool false] 29] w4 := (H.drop 2 rfl)
              refine st (ldAggR (some 28) 29 (⟨g3, 0, none⟩) [.int .i64 a.Do, .int .i64 0, .int .u64 0, .slice none 0 0, .int .i64 0, .slice none 0 0, .int .i64 0, .int .i64 0, .int .i64 0, .int .i64 0, .string ⟨([] : List UInt8).toArray⟩, .bool false] (by kernel_rfl) (by kernel_rfl) (H.cellsB 0 rfl (by rfl)) ?_)
              refine st (stAggS none 29 1 g2 0 [.int .i64 a.Do, .int .i64 0, .int .u64 0, .slice none 0 0, .int .i64 0, .slice none 0 0, .int .i64 0, .int .i64 0, .int .i64 0, .int .i64 0, .string ⟨([] : List UInt8).toArray⟩, .bool false] [.int .i64 0, .int .i64 0, .int .u64 0, .slice none 0 0, .int .i64 0, .slice none 0 0, .int .i64 0, .int .i64 0, .int .i64 0, .int .i64 0, .string ⟨([] : List UInt8).toArray⟩, .bool false] [.int .i64 a.Do, .int .i64 0, .int .u64 0, .slice none 0 0, .int .i64 0, .slice none 0 0, .int .i64 0, .int .i64 0, .int .i64 0, .int .i64 0, .string ⟨([] : List UInt8).toArray⟩, .bool false] 29 H rfl (by kernel_rfl) (by kernel_rfl) (by rfl) (of_decide_eq_true rfl) rfl ?_)
              intro w251 H
              refine seg 1 [.co [1, 1, 0, 1, 0, 1, 1, 1, 1, 1, 0, 1], .bl 0, .le 0, .co [1, 1, 1]] [(2, .pointer (some (⟨g2, 0, none⟩)))] (by kernel_rfl) ?_
              refine retC [.agg #[.int .i64 a.Do, .int .i64 0, .int .u64 0, .slice none 0 0, .int .i64 0, .slice none 0 0, .int .i64 0, .int .i64 0, .int .i64 0, .int .i64 0, .string ⟨([] : List UInt8).toArray⟩, .bool false]] (by kernel_rfl) ⟨⟨_, rfl, ldv_agg 29 (⟨g2, 0, none⟩) [.int .i64 a.Do, .int .i64 0, .int .u64 0, .slice none 0 0, .int .i64 0, .slice none 0 0, .int .i64 0, .int .i64 0, .int .i64 0, .int .i64 0, .string ⟨([] : List UInt8).toArray⟩, .bool false] (by kernel_rfl) (H.cellsB 1 rfl (by rfl))⟩, trivial⟩ ?_
              obtain rfl : ({ Do := a.Do, Len := 0, Sum := (0 : UInt64), Bytes := [], Crash := ({ After := 0, Torn := [] } : TApiCrash), Call := ({ Do := 0, Ino := 0, A := 0, B := 0, Name := ([] : List UInt8), On := false } : TApiCall) } : TApiAct) = r := (hfr236 _ (Option.some.inj hp236).symm)
              exact ⟨_, rfl, none, 0, none, 0, m, rfl, (St.takeN 0 H), (SlI.nil _ _), (SlI.nil _ _), (Nat.le_of_ble_eq_true rfl)⟩
            · rw [hb250]
              refine seg 6 [.co [1, 1, 0, 1, 0, 1, 1, 1, 1, 1, 1, 1], .bl 0, .le 0, .co [1, 1, 1]] [(1, .pointer (some (⟨g1, 0, none⟩))), (2, .pointer (some (⟨g2, 0, none⟩))), (3, .pointer (some (⟨g3, 0, none⟩))), (9, .int .i64 a.Do), (29, .bool (a.Do == 5))] (by kernel_rfl) ?_
              rcases condT hp236 with ⟨hb252, hp236⟩ | ⟨hb252, hp236⟩
              · rw [hb252]
                refine seg 3 [.op [1, 1, 0, 1, 0, 1, 1, 1, 1, 1, 1, 1, 0] 1, .bl 0, .le 0, .co [1, 1, 1]] [(2, .pointer (some (⟨g2, 0, none⟩))), (3, .pointer (some (⟨g3, 0, none⟩))), (31, .pointer (some (⟨g1, 4, none⟩)))] (by kernel_rfl) ?_
                refine st (ldAggR (some 32) 25 (⟨g1, 4, none⟩) [.int .i64 a.Crash.After, .slice A0_5 a.Crash.Torn.length c0_5] (by kernel_rfl) (by kernel_rfl) (H.cellsB 2 rfl (by rfl)) ?_)
                refine seg 1 [.op [1, 1, 0, 1, 0, 1, 1, 1, 1, 1, 1, 1, 0] 3, .bl 0, .le 0, .co [1, 1, 1]] [(2, .pointer (some (⟨g2, 0, none⟩))), (3, .pointer (some (⟨g3, 0, none⟩))), (32, .agg #[.int .i64 a.Crash.After, .slice A0_5 a.Crash.Torn.length c0_5]), (33, .pointer (some (⟨g3, 4, none⟩)))] (by kernel_rfl) ?_
                refine st (stAggS none 25 0 g3 4 [.int .i64 a.Crash.After, .slice A0_5 a.Crash.Torn.length c0_5] [.int .i64 a.Do, .int .i64 0, .int .u64 0, .slice none 0 0, .int .i64 0, .slice none 0 0, .int .i64 0, .int .i64 0, .int .i64 0, .int .i64 0, .string ⟨([] : List UInt8).toArray⟩, .bool false] [.int .i64 a.Do, .int .i64 0, .int .u64 0, .slice none 0 0, .int .i64 a.Crash.After, .slice A0_5 a.Crash.Torn.length c0_5, .int .i64 0, .int .i64 0, .int .i64 0, .int .i64 0, .string ⟨([] : List UInt8).toArray⟩, .bool false] 29 H rfl (by kernel_rfl) (by kernel_rfl) (by rfl) (of_decide_eq_true rfl) rfl ?_)
                intro w253 H
                refine seg 2 [.le 0, .co [1, 1, 1]] [(2, .pointer (some (⟨g2, 0, none⟩))), (3, .pointer (some (⟨g3, 0, none⟩)))] (by kernel_rfl) ?_
                refine leJ (0, (0 : UInt64), [], a.Crash.After, a.Crash.Torn, 0, 0, 0, 0, ([] : List UInt8), false, none, 0, A0_5, c0_5, m) ⟨(Option.some.inj hp236).symm, (St.takeN 2 (H.pull 1 rfl)), (Sub.refl _), (SlI.nil _ _), s0_5, (Nat.le_of_ble_eq_true rfl)⟩ (by kernel_rfl)
              · rw [hb252]
                refine seg 6 [.co [1, 1, 0, 1, 0, 1, 1, 1, 1, 1, 1, 1, 1, 1], .bl 0, .le 0, .co [1, 1, 1]] [(1, .pointer (some (⟨g1, 0, none⟩))), (2, .pointer (some (⟨g2, 0, none⟩))), (3, .pointer (some (⟨g3, 0, none⟩))), (34, .bool (a.Do == 7))] (by kernel_rfl) ?_
                rcases condT hp236 with ⟨hb254, hp236⟩ | ⟨hb254, hp236⟩
                · rw [hb254]
                  refine seg 4 [.op [1, 1, 0, 1, 0, 1, 1, 1, 1, 1, 1, 1, 1, 1, 0, 0] 1, .co [1, 1, 0, 1, 0, 1, 1, 1, 1, 1, 1, 1, 1, 1, 0, 1], .bl 0, .le 0, .co [1, 1, 1]] [(1, .pointer (some (⟨g1, 0, none⟩))), (2, .pointer (some (⟨g2, 0, none⟩))), (3, .pointer (some (⟨g3, 0, none⟩))), (36, .pointer (some (⟨g1, 6, none⟩)))] (by kernel_rfl) ?_
                  refine st (ldAggR (some 37) 27 (⟨g1, 6, none⟩) [.int .i64 a.Call.Do, .int .i64 a.Call.Ino, .int .i64 a.Call.A, .int .i64 a.Call.B, .string ⟨a.Call.Name.toArray⟩, .bool a.Call.On] (by kernel_rfl) (by kernel_rfl) (H.cellsB 2 rfl (by rfl)) ?_)
                  refine st (newS (some 4) (fun g => .pointer (some ⟨g, 0, none⟩)) [.int .i64 0, .int .i64 0, .int .i64 0, .int .i64 0, .string ⟨([] : List UInt8).toArray⟩, .bool false] 27 H (by kernel_rfl) ?_)
                  intro g255 w255 H
                  refine st (stAggS none 27 0 g255 0 [.int .i64 a.Call.Do, .int .i64 a.Call.Ino, .int .i64 a.Call.A, .int .i64 a.Call.B, .string ⟨a.Call.Name.toArray⟩, .bool a.Call.On] [.int .i64 0, .int .i64 0, .int .i64 0, .int .i64 0, .string ⟨([] : List UInt8).toArray⟩, .bool false] [.int .i64 a.Call.Do, .int .i64 a.Call.Ino, .int .i64 a.Call.A, .int .i64 a.Call.B, .string ⟨a.Call.Name.toArray⟩, .bool a.Call.On] 27 H rfl (by kernel_rfl) (by kernel_rfl) (by rfl) (of_decide_eq_true rfl) rfl ?_)
                  intro w256 H
                  refine seg 5 [.op [1, 1, 0, 1, 0, 1, 1, 1, 1, 1, 1, 1, 1, 1, 0, 1, 0, 0] 1, .co [1, 1, 0, 1, 0, 1, 1, 1, 1, 1, 1, 1, 1, 1, 0, 1, 0, 1], .co [1, 1, 0, 1, 0, 1, 1, 1, 1, 1, 1, 1, 1, 1, 0, 1, 1], .bl 0, .le 0, .co [1, 1, 1]] [(1, .pointer (some (⟨g1, 0, none⟩))), (2, .pointer (some (⟨g2, 0, none⟩))), (3, .pointer (some (⟨g3, 0, none⟩))), (4, .pointer (some (⟨g255, 0, none⟩))), (38, .pointer (some (⟨g255, 0, none⟩)))] (by kernel_rfl) ?_
                  replace H : St w noF m m [blkI g255 [.int .i64 a.Call.Do, .int .i64 a.Call.Ino, .int .i64 a.Call.A, .int .i64 a.Call.B, .string ⟨a.Call.Name.toArray⟩, .bool a.Call.On] 27, blkI g3 [.int .i64 a.Do, .int .i64 0, .int .u64 0, .slice none 0 0, .int .i64 0, .slice none 0 0, .int .i64 0, .int .i64 0, .int .i64 0, .int .i64 0, .string ⟨([] : List UInt8).toArray⟩, .bool false] 29, blkI g2 [.int .i64 0, .int .i64 0, .int .u64 0, .slice none 0 0, .int .i64 0, .slice none 0 0, .int .i64 0, .int .i64 0, .int .i64 0, .int .i64 0, .string ⟨([] : List UInt8).toArray⟩, .bool false] 29, blkI g1 [.int .i64 a.Do, .int .i64 a.Len, .int .u64 (a.Sum.toNat : Int), .slice A0_3 a.Bytes.length c0_3, .int .i64 a.Crash.After, .slice A0_5 a.Crash.Torn.length c0_5, .int .i64 a.Call.Do, .int .i64 a.Call.Ino, .int .i64 a.Call.A, .int .i64 a.Call.B, .string ⟨a.Call.Name.toArray⟩, .bool a.Call.On] 29] w256 := H
                  refine st (ldR (some 39) 3 (⟨g255, 0, none⟩) (.int .i64 a.Call.Do) (by kernel_rfl) (by kernel_rfl) (H.cellB 0 rfl rfl) ?_)
                  refine seg 2 [.op [1, 1, 0, 1, 0, 1, 1, 1, 1, 1, 1, 1, 1, 1, 0, 1, 0, 0] 4, .co [1, 1, 0, 1, 0, 1, 1, 1, 1, 1, 1, 1, 1, 1, 0, 1, 0, 1], .co [1, 1, 0, 1, 0, 1, 1, 1, 1, 1, 1, 1, 1, 1, 0, 1, 1], .bl 0, .le 0, .co [1, 1, 1]] [(1, .pointer (some (⟨g1, 0, none⟩))), (2, .pointer (some (⟨g2, 0, none⟩))), (3, .pointer (some (⟨g3, 0, none⟩))), (4, .pointer (some (⟨g255, 0, none⟩))), (41, .bool (decide (a.Call.Do < 1)))] (by kernel_rfl) ?_
                  rcases condT hp236 with ⟨hb257, hp236⟩ | ⟨hb257, hp236⟩
                  · rw [hb257]
                    have p257 := of_decide_eq_true hb257
                    refine seg 8 [.op [1, 1, 0, 1, 0, 1, 1, 1, 1, 1, 1, 1, 1, 1, 0, 1, 0, 1, 0, 0] 0, .co [1, 1, 0, 1, 0, 1, 1, 1, 1, 1, 1, 1, 1, 1, 0, 1, 0, 1, 0, 1], .co [1, 1, 0, 1, 0, 1, 1, 1, 1, 1, 1, 1, 1, 1, 0, 1, 1], .bl 0, .le 0, .co [1, 1, 1]] [(1, .pointer (some (⟨g1, 0, none⟩))), (2, .pointer (some (⟨g2, 0, none⟩)))] (by kernel_rfl) ?_
                    refine st (ldAggR (some 46) 29 (⟨g1, 0, none⟩) [.int .i64 a.Do, .int .i64 a.Len, .int .u64 (a.Sum.toNat : Int), .slice A0_3 a.Bytes.length c0_3, .int .i64 a.Crash.After, .slice A0_5 a.Crash.Torn.length c0_5, .int .i64 a.Call.Do, .int .i64 a.Call.Ino, .int .i64 a.Call.A, .int .i64 a.Call.B, .string ⟨a.Call.Name.toArray⟩, .bool a.Call.On] (by kernel_rfl) (by kernel_rfl) (H.cellsB 3 rfl (by rfl)) ?_)
                    refine st (stAggS none 29 2 g2 0 [.int .i64 a.Do, .int .i64 a.Len, .int .u64 (a.Sum.toNat : Int), .slice A0_3 a.Bytes.length c0_3, .int .i64 a.Crash.After, .slice A0_5 a.Crash.Torn.length c0_5, .int .i64 a.Call.Do, .int .i64 a.Call.Ino, .int .i64 a.Call.A, .int .i64 a.Call.B, .string ⟨a.Call.Name.toArray⟩, .bool a.Call.On] [.int .i64 0, .int .i64 0, .int .u64 0, .slice none 0 0, .int .i64 0, .slice none 0 0, .int .i64 0, .int .i64 0, .int .i64 0, .int .i64 0, .string ⟨([] : List UInt8).toArray⟩, .bool false] [.int .i64 a.Do, .int .i64 a.Len, .int .u64 (a.Sum.toNat : Int), .slice A0_3 a.Bytes.length c0_3, .int .i64 a.Crash.After, .slice A0_5 a.Crash.Torn.length c0_5, .int .i64 a.Call.Do, .int .i64 a.Call.Ino, .int .i64 a.Call.A, .int .i64 a.Call.B, .string ⟨a.Call.Name.toArray⟩, .bool a.Call.On] 29 H rfl (by kernel_rfl) (by kernel_rfl) (by rfl) (of_decide_eq_true rfl) rfl ?_)
                    intro w258 H
                    refine seg 1 [.co [1, 1, 0, 1, 0, 1, 1, 1, 1, 1, 1, 1, 1, 1, 0, 1, 0, 1, 0, 1], .co [1, 1, 0, 1, 0, 1, 1, 1, 1, 1, 1, 1, 1, 1, 0, 1, 1], .bl 0, .le 0, .co [1, 1, 1]] [(2, .pointer (some (⟨g2, 0, none⟩)))] (by kernel_rfl) ?_
                    refine retC [.agg #[.int .i64 a.Do, .int .i64 a.Len, .int .u64 (a.Sum.toNat : Int), .slice A0_3 a.Bytes.length c0_3, .int .i64 a.Crash.After, .slice A0_5 a.Crash.Torn.length c0_5, .int .i64 a.Call.Do, .int .i64 a.Call.Ino, .int .i64 a.Call.A, .int .i64 a.Call.B, .string ⟨a.Call.Name.toArray⟩, .bool a.Call.On]] (by kernel_rfl) ⟨⟨_, rfl, ldv_agg 29 (⟨g2, 0, none⟩) [.int .i64 a.Do, .int .i64 a.Len, .int .u64 (a.Sum.toNat : Int), .slice A0_3 a.Bytes.length c0_3, .int .i64 a.Crash.After, .slice A0_5 a.Crash.Torn.length c0_5, .int .i64 a.Call.Do, .int .i64 a.Call.Ino, .int .i64 a.Call.A, .int .i64 a.Call.B, .string ⟨a.Call.Name.toArray⟩, .bool a.Call.On] (by kernel_rfl) (H.cellsB 2 rfl (by rfl))⟩, trivial⟩ ?_
                    have hret := (hfr236 _ (Option.some.inj hp236).symm)
                    subst hret
                    exact ⟨_, rfl, A0_3, c0_3, A0_5, c0_5, m, rfl, (St.takeN 0 H), s0_3, s0_5, l0_10⟩
                  · rw [hb257]
                    have p257 := of_decide_eq_false hb257
                    refine seg 1 [.op [1, 1, 0, 1, 0, 1, 1, 1, 1, 1, 1, 1, 1, 1, 0, 1, 0, 0] 5, .co [1, 1, 0, 1, 0, 1, 1, 1, 1, 1, 1, 1, 1, 1, 0, 1, 0, 1], .co [1, 1, 0, 1, 0, 1, 1, 1, 1, 1, 1, 1, 1, 1, 0, 1, 1], .bl 0, .le 0, .co [1, 1, 1]] [(1, .pointer (some (⟨g1, 0, none⟩))), (2, .pointer (some (⟨g2, 0, none⟩))), (3, .pointer (some (⟨g3, 0, none⟩))), (4, .pointer (some (⟨g255, 0, none⟩))), (41, .bool false), (42, .pointer (some (⟨g255, 0, none⟩)))] (by kernel_rfl) ?_
                    refine st (ldR (some 43) 3 (⟨g255, 0, none⟩) (.int .i64 a.Call.Do) (by kernel_rfl) (by kernel_rfl) (H.cellB 0 rfl rfl) ?_)
                    refine seg 3 [.co [1, 1, 0, 1, 0, 1, 1, 1, 1, 1, 1, 1, 1, 1, 0, 1, 0, 1], .co [1, 1, 0, 1, 0, 1, 1, 1, 1, 1, 1, 1, 1, 1, 0, 1, 1], .bl 0, .le 0, .co [1, 1, 1]] [(1, .pointer (some (⟨g1, 0, none⟩))), (2, .pointer (some (⟨g2, 0, none⟩))), (3, .pointer (some (⟨g3, 0, none⟩))), (4, .pointer (some (⟨g255, 0, none⟩))), (45, .bool (decide (a.Call.Do > 8)))] (by kernel_rfl) ?_
                    rcases condT hp236 with ⟨hb259, hp236⟩ | ⟨hb259, hp236⟩
                    · rw [hb259]
                      have p259 := of_decide_eq_true hb259
                      refine seg 3 [.op [1, 1, 0, 1, 0, 1, 1, 1, 1, 1, 1, 1, 1, 1, 0, 1, 0, 1, 0, 0] 0, .co [1, 1, 0, 1, 0, 1, 1, 1, 1, 1, 1, 1, 1, 1, 0, 1, 0, 1, 0, 1], .co [1, 1, 0, 1, 0, 1, 1, 1, 1, 1, 1, 1, 1, 1, 0, 1, 1], .bl 0, .le 0, .co [1, 1, 1]] [(1, .pointer (some (⟨g1, 0, none⟩))), (2, .pointer (some (⟨g2, 0, none⟩)))] (by kernel_rfl) ?_
                      refine st (ldAggR (some 46) 29 (⟨g1, 0, none⟩) [.int .i64 a.Do, .int .i64 a.Len, .int .u64 (a.Sum.toNat : Int), .slice A0_3 a.Bytes.length c0_3, .int .i64 a.Crash.After, .slice A0_5 a.Crash.Torn.length c0_5, .int .i64 a.Call.Do, .int .i64 a.Call.Ino, .int .i64 a.Call.A, .int .i64 a.Call.B, .string ⟨a.Call.Name.toArray⟩, .bool a.Call.On] (by kernel_rfl) (by kernel_rfl) (H.cellsB 3 rfl (by rfl)) ?_)
                      refine st (stAggS none 29 2 g2 0 [.int .i64 a.Do, .int .i64 a.Len, .int .u64 (a.Sum.toNat : Int), .slice A0_3 a.Bytes.length c0_3, .int .i64 a.Crash.After, .slice A0_5 a.Crash.Torn.length c0_5, .int .i64 a.Call.Do, .int .i64 a.Call.Ino, .int .i64 a.Call.A, .int .i64 a.Call.B, .string ⟨a.Call.Name.toArray⟩, .bool a.Call.On] [.int .i64 0, .int .i64 0, .int .u64 0, .slice none 0 0, .int .i64 0, .slice none 0 0, .int .i64 0, .int .i64 0, .int .i64 0, .int .i64 0, .string ⟨([] : List UInt8).toArray⟩, .bool false] [.int .i64 a.Do, .int .i64 a.Len, .int .u64 (a.Sum.toNat : Int), .slice A0_3 a.Bytes.length c0_3, .int .i64 a.Crash.After, .slice A0_5 a.Crash.Torn.length c0_5, .int .i64 a.Call.Do, .int .i64 a.Call.Ino, .int .i64 a.Call.A, .int .i64 a.Call.B, .string ⟨a.Call.Name.toArray⟩, .bool a.Call.On] 29 H rfl (by kernel_rfl) (by kernel_rfl) (by rfl) (of_decide_eq_true rfl) rfl ?_)
                      intro w260 H
                      refine seg 1 [.co [1, 1, 0, 1, 0, 1, 1, 1, 1, 1, 1, 1, 1, 1, 0, 1, 0, 1, 0, 1], .co [1, 1, 0, 1, 0, 1, 1, 1, 1, 1, 1, 1, 1, 1, 0, 1, 1], .bl 0, .le 0, .co [1, 1, 1]] [(2, .pointer (some (⟨g2, 0, none⟩)))] (by kernel_rfl) ?_
                      refine retC [.agg #[.int .i64 a.Do, .int .i64 a.Len, .int .u64 (a.Sum.toNat : Int), .slice A0_3 a.Bytes.length c0_3, .int .i64 a.Crash.After, .slice A0_5 a.Crash.Torn.length c0_5, .int .i64 a.Call.Do, .int .i64 a.Call.Ino, .int .i64 a.Call.A, .int .i64 a.Call.B, .string ⟨a.Call.Name.toArray⟩, .bool a.Call.On]] (by kernel_rfl) ⟨⟨_, rfl, ldv_agg 29 (⟨g2, 0, none⟩) [.int .i64 a.Do, .int .i64 a.Len, .int .u64 (a.Sum.toNat : Int), .slice A0_3 a.Bytes.length c0_3, .int .i64 a.Crash.After, .slice A0_5 a.Crash.Torn.length c0_5, .int .i64 a.Call.Do, .int .i64 a.Call.Ino, .int .i64 a.Call.A, .int .i64 a.Call.B, .string ⟨a.Call.Name.toArray⟩, .bool a.Call.On] (by kernel_rfl) (H.cellsB 2 rfl (by rfl))⟩, trivial⟩ ?_
                      have hret := (hfr236 _ (Option.some.inj hp236).symm)
                      subst hret
                      exact ⟨_, rfl, A0_3, c0_3, A0_5, c0_5, m, rfl, (St.takeN 0 H), s0_3, s0_5, l0_10⟩
                    · rw [hb259]
                      have p259 := of_decide_eq_false hb259
                      refine seg 5 [.op [1, 1, 0, 1, 0, 1, 1, 1, 1, 1, 1, 1, 1, 1, 0, 1, 1, 0] 1, .co [1, 1, 0, 1, 0, 1, 1, 1, 1, 1, 1, 1, 1, 1, 0, 1, 1, 1], .bl 0, .le 0, .co [1, 1, 1]] [(2, .pointer (some (⟨g2, 0, none⟩))), (3, .pointer (some (⟨g3, 0, none⟩))), (4, .pointer (some (⟨g255, 0, none⟩))), (47, .pointer (some (⟨g255, 0, none⟩)))] (by kernel_rfl) ?_
                      refine st (ldR (some 48) 3 (⟨g255, 0, none⟩) (.int .i64 a.Call.Do) (by kernel_rfl) (by kernel_rfl) (H.cellB 0 rfl rfl) ?_)
                      refine seg 1 [.op [1, 1, 0, 1, 0, 1, 1, 1, 1, 1, 1, 1, 1, 1, 0, 1, 1, 0] 3, .co [1, 1, 0, 1, 0, 1, 1, 1, 1, 1, 1, 1, 1, 1, 0, 1, 1, 1], .bl 0, .le 0, .co [1, 1, 1]] [(2, .pointer (some (⟨g2, 0, none⟩))), (3, .pointer (some (⟨g3, 0, none⟩))), (4, .pointer (some (⟨g255, 0, none⟩))), (48, .int .i64 a.Call.Do), (49, .pointer (some (⟨g255, 1, none⟩)))] (by kernel_rfl) ?_
                      refine st (ldR (some 50) 3 (⟨g255, 1, none⟩) (.int .i64 a.Call.Ino) (by kernel_rfl) (by kernel_rfl) (H.cellB 0 rfl rfl) ?_)
                      refine seg 2 [.op [1, 1, 0, 1, 0, 1, 1, 1, 1, 1, 1, 1, 1, 1, 0, 1, 1, 0] 6, .co [1, 1, 0, 1, 0, 1, 1, 1, 1, 1, 1, 1, 1, 1, 0, 1, 1, 1], .bl 0, .le 0, .co [1, 1, 1]] [(2, .pointer (some (⟨g2, 0, none⟩))), (3, .pointer (some (⟨g3, 0, none⟩))), (4, .pointer (some (⟨g255, 0, none⟩))), (51, .agg #[.int .i64 a.Call.Do, .int .i64 a.Call.Ino, .int .i64 0, .int .i64 0, .string ⟨([] : List UInt8).toArray⟩, .bool false]), (52, .pointer (some (⟨g3, 6, none⟩)))] (by kernel_rfl) ?_
                      refine st (stAggS none 27 1 g3 6 [.int .i64 a.Call.Do, .int .i64 a.Call.Ino, .int .i64 0, .int .i64 0, .string ⟨([] : List UInt8).toArray⟩, .bool false] [.int .i64 a.Do, .int .i64 0, .int .u64 0, .slice none 0 0, .int .i64 0, .slice none 0 0, .int .i64 0, .int .i64 0, .int .i64 0, .int .i64 0, .string ⟨([] : List UInt8).toArray⟩, .bool false] [.int .i64 a.Do, .int .i64 0, .int .u64 0, .slice none 0 0, .int .i64 0, .slice none 0 0, .int .i64 a.Call.Do, .int .i64 a.Call.Ino, .int .i64 0, .int .i64 0, .string ⟨([] : List UInt8).toArray⟩, .bool false] 29 H rfl (by kernel_rfl) (by kernel_rfl) (by rfl) (of_decide_eq_true rfl) rfl ?_)
                      intro w261 H
                      refine seg 5 [.op [1, 1, 0, 1, 0, 1, 1, 1, 1, 1, 1, 1, 1, 1, 0, 1, 1, 1, 0, 0] 1, .co [1, 1, 0, 1, 0, 1, 1, 1, 1, 1, 1, 1, 1, 1, 0, 1, 1, 1, 0, 1], .co [1, 1, 0, 1, 0, 1, 1, 1, 1, 1, 1, 1, 1, 1, 0, 1, 1, 1, 1], .bl 0, .le 0, .co [1, 1, 1]] [(2, .pointer (some (⟨g2, 0, none⟩))), (3, .pointer (some (⟨g3, 0, none⟩))), (4, .pointer (some (⟨g255, 0, none⟩))), (53, .pointer (some (⟨g255, 0, none⟩)))] (by kernel_rfl) ?_
                      refine st (ldR (some 54) 3 (⟨g255, 0, none⟩) (.int .i64 a.Call.Do) (by kernel_rfl) (by kernel_rfl) (H.cellB 0 rfl rfl) ?_)
                      refine st (callR (some 55) 22 #[.int .i64 a.Call.Do] Tryd.call22 (ref31_three_c H.has a.Call.Do) (by kernel_rfl) ?_)
                      rintro _ w262 ⟨rfl, hx262⟩
                      replace H := H.ex hx262
                      refine seg 1 [.co [1, 1, 0, 1, 0, 1, 1, 1, 1, 1, 1, 1, 1, 1, 0, 1, 1, 1, 0, 1], .co [1, 1, 0, 1, 0, 1, 1, 1, 1, 1, 1, 1, 1, 1, 0, 1, 1, 1, 1], .bl 0, .le 0, .co [1, 1, 1]] [(2, .pointer (some (⟨g2, 0, none⟩))), (3, .pointer (some (⟨g3, 0, none⟩))), (4, .pointer (some (⟨g255, 0, none⟩))), (55, .bool (ref31_three a.Call.Do))] (by kernel_rfl) ?_
                      obtain ⟨y266, hp266, hp236⟩ := ltE hp236
                      refine joinR 1 (fun (x : Int × Int) => [(2, .pointer (some (⟨g2, 0, none⟩))), (3, .pointer (some (⟨g3, 0, none⟩))), (4, .pointer (some (⟨g255, 0, none⟩)))]) (fun (x : Int × Int) (wj266 : World) => y266 = (x.1, x.2) ∧ St w noF m m [blkI g2 [.int .i64 0, .int .i64 0, .int .u64 0, .slice none 0 0, .int .i64 0, .slice none 0 0, .int .i64 0, .int .i64 0, .int .i64 0, .int .i64 0, .string ⟨([] : List UInt8).toArray⟩, .bool false] 29, blkI g3 [.int .i64 a.Do, .int .i64 0, .int .u64 0, .slice none 0 0, .int .i64 0, .slice none 0 0, .int .i64 a.Call.Do, .int .i64 a.Call.Ino, .int .i64 x.1, .int .i64 x.2, .string ⟨([] : List UInt8).toArray⟩, .bool false] 29, blkI g255 [.int .i64 a.Call.Do, .int .i64 a.Call.Ino, .int .i64 a.Call.A, .int .i64 a.Call.B, .string ⟨a.Call.Name.toArray⟩, .bool a.Call.On] 27] wj266) (by kernel_rfl) ?_ ?_
                      · rcases condT hp266 with ⟨hb268, hp266⟩ | ⟨hb268, hp266⟩
                        · rw [hb268]
                          refine seg 1 [.co [1, 1, 0, 1, 0, 1, 1, 1, 1, 1, 1, 1, 1, 1, 0, 1, 1, 1, 0, 1, 0], .le 1, .co [1, 1, 0, 1, 0, 1, 1, 1, 1, 1, 1, 1, 1, 1, 0, 1, 1, 1, 1], .bl 0, .le 0, .co [1, 1, 1]] [(2, .pointer (some (⟨g2, 0, none⟩))), (3, .pointer (some (⟨g3, 0, none⟩))), (4, .pointer (some (⟨g255, 0, none⟩)))] (by kernel_rfl) ?_
                          have hst : statB (bodyOf Tryd.f13) [1, 1, 0, 1, 0, 1, 1, 1, 1, 1, 1, 1, 1, 1, 0, 1, 1, 1, 0, 1, 0] = true := by kernel_rfl
                          refine drawS (fun w' => Has m w' ∧ w'.heap[g255]? = some (.cells [.int .i64 a.Call.Do, .int .i64 a.Call.Ino, .int .i64 a.Call.A, .int .i64 a.Call.B, .string ⟨a.Call.Name.toArray⟩, .bool a.Call.On].toArray 27 (0, 0)) ∧ w'.heap[g2]? = some (.cells [.int .i64 0, .int .i64 0, .int .u64 0, .slice none 0 0, .int .i64 0, .slice none 0 0, .int .i64 0, .int .i64 0, .int .i64 0, .int .i64 0, .string ⟨([] : List UInt8).toArray⟩, .bool false].toArray 29 (0, 0)) ∧ w'.heap[g1]? = some (.cells [.int .i64 a.Do, .int .i64 a.Len, .int .u64 (a.Sum.toNat : Int), .slice A0_3 a.Bytes.length c0_3, .int .i64 a.Crash.After, .slice A0_5 a.Crash.Torn.length c0_5, .int .i64 a.Call.Do, .int .i64 a.Call.Ino, .int .i64 a.Call.A, .int .i64 a.Call.B, .string ⟨a.Call.Name.toArray⟩, .bool a.Call.On].toArray 29 (0, 0))) H (by kernel_rfl) (by kernel_rfl) ?_
                          intro w271 H
                          refine segD2 hst [0, 2] [0, 2] [(2, .pointer (some (⟨g2, 0, none⟩))), (3, .pointer (some (⟨g3, 0, none⟩))), (4, .pointer (some (⟨g255, 0, none⟩))), (56, .pointer (some (⟨g255, 2, none⟩))), (58, .pointer (some (⟨g255, 3, none⟩)))] (by kernel_rfl) ?_
                          refine takeD2 (i := 1) (d := (some 57)) (s := vS (Instr.loadAt 3 (.pointer (some (⟨g255, 2, none⟩))))) (v := (.int .i64 a.Call.A)) hst (by kernel_rfl) (by kernel_rfl) (fun w' hw' => ld_run _ _ _ (by kernel_rfl) (blk_cell hw'.2.1 rfl)) ?_
                          refine segD2 hst [4, 5] [0, 2, 1, 4, 5] [(2, .pointer (some (⟨g2, 0, none⟩))), (3, .pointer (some (⟨g3, 0, none⟩))), (4, .pointer (some (⟨g255, 0, none⟩))), (57, .int .i64 a.Call.A), (58, .pointer (some (⟨g255, 3, none⟩))), (61, .pointer (some (⟨g3, 8, none⟩)))] (by kernel_rfl) ?_
                          refine takeD2 (i := 3) (d := (some 59)) (s := vS (Instr.loadAt 3 (.pointer (some (⟨g255, 3, none⟩))))) (v := (.int .i64 a.Call.B)) hst (by kernel_rfl) (by kernel_rfl) (fun w' hw' => ld_run _ _ _ (by kernel_rfl) (blk_cell hw'.2.1 rfl)) ?_
                          replace H : St w noF m m [blkI g255 [.int .i64 a.Call.Do, .int .i64 a.Call.Ino, .int .i64 a.Call.A, .int .i64 a.Call.B, .string ⟨a.Call.Name.toArray⟩, .bool a.Call.On] 27, blkI g3 [.int .i64 a.Do, .int .i64 0, .int .u64 0, .slice none 0 0, .int .i64 0, .slice none 0 0, .int .i64 a.Call.Do, .int .i64 a.Call.Ino, .int .i64 0, .int .i64 0, .string ⟨([] : List UInt8).toArray⟩, .bool false] 29, blkI g2 [.int .i64 0, .int .i64 0, .int .u64 0, .slice none 0 0, .int .i64 0, .slice none 0 0, .int .i64 0, .int .i64 0, .int .i64 0, .int .i64 0, .string ⟨([] : List UInt8).toArray⟩, .bool false] 29, blkI g1 [.int .i64 a.Do, .int .i64 a.Len, .int .u64 (a.Sum.toNat : Int), .slice A0_3 a.Bytes.length c0_3, .int .i64 a.Crash.After, .slice A0_5 a.Crash.Torn.length c0_5, .int .i64 a.Call.Do, .int .i64 a.Call.Ino, .int .i64 a.Call.A, .int .i64 a.Call.B, .string ⟨a.Call.Name.toArray⟩, .bool a.Call.On] 29] w271 := H
                          refine stD2 (i := 6) (by kernel_rfl) ⟨H.has, H.blk 0 rfl, H.blk 2 rfl, H.blk 3 rfl⟩ (stS none 3 1 g3 8 (.int .i64 a.Call.A) [.int .i64 a.Do, .int .i64 0, .int .u64 0, .slice none 0 0, .int .i64 0, .slice none 0 0, .int .i64 a.Call.Do, .int .i64 a.Call.Ino, .int .i64 0, .int .i64 0, .string ⟨([] : List UInt8).toArray⟩, .bool false] 29 H rfl (by kernel_rfl) (by kernel_rfl) rfl (of_decide_eq_true rfl) ?_)
                          intro w272 H
                          refine segD2 hst [7, 8] [0, 2, 1, 4, 5, 3, 6, 7, 8] [(2, .pointer (some (⟨g2, 0, none⟩))), (3, .pointer (some (⟨g3, 0, none⟩))), (4, .pointer (some (⟨g255, 0, none⟩))), (59, .int .i64 a.Call.B), (63, .pointer (some (⟨g3, 9, none⟩)))] (by kernel_rfl) ?_
                          refine stD2 (i := 9) (by kernel_rfl) ⟨H.has, H.blk 0 rfl, H.blk 2 rfl, H.blk 3 rfl⟩ (stS none 3 1 g3 9 (.int .i64 a.Call.B) [.int .i64 a.Do, .int .i64 0, .int .u64 0, .slice none 0 0, .int .i64 0, .slice none 0 0, .int .i64 a.Call.Do, .int .i64 a.Call.Ino, .int .i64 a.Call.A, .int .i64 0, .string ⟨([] : List UInt8).toArray⟩, .bool false] 29 H rfl (by kernel_rfl) (by kernel_rfl) rfl (of_decide_eq_true rfl) ?_)
                          intro w273 H
                          refine endD2 (by kernel_rfl) ⟨H.has, H.blk 0 rfl, H.blk 2 rfl, H.blk 3 rfl⟩ ?_
                          refine leJ (a.Call.A, a.Call.B) ⟨hp266.symm, (St.takeN 3 ((H.pull 1 rfl).pull 2 rfl))⟩ (by kernel_rfl)
                        · rw [hb268]
                          refine seg 2 [.le 1, .co [1, 1, 0, 1, 0, 1, 1, 1, 1, 1, 1, 1, 1, 1, 0, 1, 1, 1, 1], .bl 0, .le 0, .co [1, 1, 1]] [(2, .pointer (some (⟨g2, 0, none⟩))), (3, .pointer (some (⟨g3, 0, none⟩))), (4, .pointer (some (⟨g255, 0, none⟩)))] (by kernel_rfl) ?_
                          refine leJ (0, 0) ⟨hp266.symm, (St.takeN 3 ((H.pull 1 rfl).pull 2 rfl))⟩ (by kernel_rfl)
                      rintro ⟨A, B_⟩ wj266 ⟨hy266, H⟩
                      try dsimp only at hy266
                      try dsimp only at H
                      rw [hy266] at hp236
                      try dsimp only at hp236
                      refine seg 4 [.op [1, 1, 0, 1, 0, 1, 1, 1, 1, 1, 1, 1, 1, 1, 0, 1, 1, 1, 1, 0, 0] 1, .co [1, 1, 0, 1, 0, 1, 1, 1, 1, 1, 1, 1, 1, 1, 0, 1, 1, 1, 1, 0, 1], .co [1, 1, 0, 1, 0, 1, 1, 1, 1, 1, 1, 1, 1, 1, 0, 1, 1, 1, 1, 1], .bl 0, .le 0, .co [1, 1, 1]] [(2, .pointer (some (⟨g2, 0, none⟩))), (3, .pointer (some (⟨g3, 0, none⟩))), (4, .pointer (some (⟨g255, 0, none⟩))), (64, .pointer (some (⟨g255, 0, none⟩)))] (by kernel_rfl) ?_
                      refine st (ldR (some 65) 3 (⟨g255, 0, none⟩) (.int .i64 a.Call.Do) (by kernel_rfl) (by kernel_rfl) (H.cellB 2 rfl rfl) ?_)
                      refine st (callR (some 66) 23 #[.int .i64 a.Call.Do] Tryd.call23 (ref31_named_c H.has a.Call.Do) (by kernel_rfl) ?_)
                      rintro _ w274 ⟨rfl, hx274⟩
                      replace H := H.ex hx274
                      refine seg 1 [.co [1, 1, 0, 1, 0, 1, 1, 1, 1, 1, 1, 1, 1, 1, 0, 1, 1, 1, 1, 0, 1], .co [1, 1, 0, 1, 0, 1, 1, 1, 1, 1, 1, 1, 1, 1, 0, 1, 1, 1, 1, 1], .bl 0, .le 0, .co [1, 1, 1]] [(2, .pointer (some (⟨g2, 0, none⟩))), (3, .pointer (some (⟨g3, 0, none⟩))), (4, .pointer (some (⟨g255, 0, none⟩))), (66, .bool (ref31_named a.Call.Do))] (by kernel_rfl) ?_
                      rcases condT hp236 with ⟨hb275, hp236⟩ | ⟨hb275, hp236⟩
                      · rw [hb275]
                        refine seg 3 [.op [1, 1, 0, 1, 0, 1, 1, 1, 1, 1, 1, 1, 1, 1, 0, 1, 1, 1, 1, 0, 1, 0] 1, .co [1, 1, 0, 1, 0, 1, 1, 1, 1, 1, 1, 1, 1, 1, 0, 1, 1, 1, 1, 1], .bl 0, .le 0, .co [1, 1, 1]] [(2, .pointer (some (⟨g2, 0, none⟩))), (3, .pointer (some (⟨g3, 0, none⟩))), (4, .pointer (some (⟨g255, 0, none⟩))), (67, .pointer (some (⟨g255, 4, none⟩)))] (by kernel_rfl) ?_
                        refine st (ldR (some 68) 9 (⟨g255, 4, none⟩) (.string ⟨a.Call.Name.toArray⟩) (by kernel_rfl) (by kernel_rfl) (H.cellB 2 rfl rfl) ?_)
                        refine seg 2 [.op [1, 1, 0, 1, 0, 1, 1, 1, 1, 1, 1, 1, 1, 1, 0, 1, 1, 1, 1, 0, 1, 0] 4, .co [1, 1, 0, 1, 0, 1, 1, 1, 1, 1, 1, 1, 1, 1, 0, 1, 1, 1, 1, 1], .bl 0, .le 0, .co [1, 1, 1]] [(2, .pointer (some (⟨g2, 0, none⟩))), (3, .pointer (some (⟨g3, 0, none⟩))), (4, .pointer (some (⟨g255, 0, none⟩))), (68, .string ⟨a.Call.Name.toArray⟩), (70, .pointer (some (⟨g3, 10, none⟩)))] (by kernel_rfl) ?_
                        refine st (stS none 9 1 g3 10 (.string ⟨a.Call.Name.toArray⟩) [.int .i64 a.Do, .int .i64 0, .int .u64 0, .slice none 0 0, .int .i64 0, .slice none 0 0, .int .i64 a.Call.Do, .int .i64 a.Call.Ino, .int .i64 A, .int .i64 B_, .string ⟨([] : List UInt8).toArray⟩, .bool false] 29 H rfl (by kernel_rfl) (by kernel_rfl) rfl (of_decide_eq_true rfl) ?_)
                        intro w276 H
                        refine seg 4 [.op [1, 1, 0, 1, 0, 1, 1, 1, 1, 1, 1, 1, 1, 1, 0, 1, 1, 1, 1, 1, 0] 1, .co [1, 1, 0, 1, 0, 1, 1, 1, 1, 1, 1, 1, 1, 1, 0, 1, 1, 1, 1, 1, 1], .bl 0, .le 0, .co [1, 1, 1]] [(2, .pointer (some (⟨g2, 0, none⟩))), (3, .pointer (some (⟨g3, 0, none⟩))), (4, .pointer (some (⟨g255, 0, none⟩))), (71, .pointer (some (⟨g255, 0, none⟩)))] (by kernel_rfl) ?_
                        replace H : St w noF m m [blkI g2 [.int .i64 0, .int .i64 0, .int .u64 0, .slice none 0 0, .int .i64 0, .slice none 0 0, .int .i64 0, .int .i64 0, .int .i64 0, .int .i64 0, .string ⟨([] : List UInt8).toArray⟩, .bool false] 29, blkI g3 [.int .i64 a.Do, .int .i64 0, .int .u64 0, .slice none 0 0, .int .i64 0, .slice none 0 0, .int .i64 a.Call.Do, .int .i64 a.Call.Ino, .int .i64 A, .int .i64 B_, .string ⟨a.Call.Name.toArray⟩, .bool false] 29, blkI g255 [.int .i64 a.Call.Do, .int .i64 a.Call.Ino, .int .i64 a.Call.A, .int .i64 a.Call.B, .string ⟨a.Call.Name.toArray⟩, .bool a.Call.On] 27] w276 := H
                        refine st (ldR (some 72) 3 (⟨g255, 0, none⟩) (.int .i64 a.Call.Do) (by kernel_rfl) (by kernel_rfl) (H.cellB 2 rfl rfl) ?_)
                        refine seg 2 [.co [1, 1, 0, 1, 0, 1, 1, 1, 1, 1, 1, 1, 1, 1, 0, 1, 1, 1, 1, 1, 1], .bl 0, .le 0, .co [1, 1, 1]] [(2, .pointer (some (⟨g2, 0, none⟩))), (3, .pointer (some (⟨g3, 0, none⟩))), (4, .pointer (some (⟨g255, 0, none⟩))), (73, .bool (a.Call.Do == 8))] (by kernel_rfl) ?_
                        rcases condT hp236 with ⟨hb277, hp236⟩ | ⟨hb277, hp236⟩
                        · rw [hb277]
                          refine seg 3 [.op [1, 1, 0, 1, 0, 1, 1, 1, 1, 1, 1, 1, 1, 1, 0, 1, 1, 1, 1, 1, 1, 0] 1, .bl 0, .le 0, .co [1, 1, 1]] [(2, .pointer (some (⟨g2, 0, none⟩))), (3, .pointer (some (⟨g3, 0, none⟩))), (74, .pointer (some (⟨g255, 5, none⟩)))] (by kernel_rfl) ?_
                          refine st (ldR (some 75) 4 (⟨g255, 5, none⟩) (.bool a.Call.On) (by kernel_rfl) (by kernel_rfl) (H.cellB 2 rfl rfl) ?_)
                          refine seg 2 [.op [1, 1, 0, 1, 0, 1, 1, 1, 1, 1, 1, 1, 1, 1, 0, 1, 1, 1, 1, 1, 1, 0] 4, .bl 0, .le 0, .co [1, 1, 1]] [(2, .pointer (some (⟨g2, 0, none⟩))), (3, .pointer (some (⟨g3, 0, none⟩))), (75, .bool a.Call.On), (77, .pointer (some (⟨g3, 11, none⟩)))] (by kernel_rfl) ?_
                          refine st (stS none 4 1 g3 11 (.bool a.Call.On) [.int .i64 a.Do, .int .i64 0, .int .u64 0, .slice none 0 0, .int .i64 0, .slice none 0 0, .int .i64 a.Call.Do, .int .i64 a.Call.Ino, .int .i64 A, .int .i64 B_, .string ⟨a.Call.Name.toArray⟩, .bool false] 29 H rfl (by kernel_rfl) (by kernel_rfl) rfl (of_decide_eq_true rfl) ?_)
                          intro w278 H
                          refine seg 2 [.le 0, .co [1, 1, 1]] [(2, .pointer (some (⟨g2, 0, none⟩))), (3, .pointer (some (⟨g3, 0, none⟩)))] (by kernel_rfl) ?_
                          refine leJ (0, (0 : UInt64), [], 0, [], a.Call.Do, a.Call.Ino, A, B_, a.Call.Name, a.Call.On, none, 0, none, 0, m) ⟨(Option.some.inj hp236).symm, (St.takeN 2 ((H.pull 1 rfl).pull 1 rfl)), (Sub.refl _), (SlI.nil _ _), (SlI.nil _ _), l0_10⟩ (by kernel_rfl)
                        · rw [hb277]
                          refine seg 3 [.le 0, .co [1, 1, 1]] [(2, .pointer (some (⟨g2, 0, none⟩))), (3, .pointer (some (⟨g3, 0, none⟩)))] (by kernel_rfl) ?_
                          refine leJ (0, (0 : UInt64), [], 0, [], a.Call.Do, a.Call.Ino, A, B_, a.Call.Name, false, none, 0, none, 0, m) ⟨(Option.some.inj hp236).symm, (St.takeN 2 ((H.pull 1 rfl).pull 1 rfl)), (Sub.refl _), (SlI.nil _ _), (SlI.nil _ _), l0_10⟩ (by kernel_rfl)
                      · rw [hb275]
                        refine seg 5 [.op [1, 1, 0, 1, 0, 1, 1, 1, 1, 1, 1, 1, 1, 1, 0, 1, 1, 1, 1, 1, 0] 1, .co [1, 1, 0, 1, 0, 1, 1, 1, 1, 1, 1, 1, 1, 1, 0, 1, 1, 1, 1, 1, 1], .bl 0, .le 0, .co [1, 1, 1]] [(2, .pointer (some (⟨g2, 0, none⟩))), (3, .pointer (some (⟨g3, 0, none⟩))), (4, .pointer (some (⟨g255, 0, none⟩))), (71, .pointer (some (⟨g255, 0, none⟩)))] (by kernel_rfl) ?_
                        refine st (ldR (some 72) 3 (⟨g255, 0, none⟩) (.int .i64 a.Call.Do) (by kernel_rfl) (by kernel_rfl) (H.cellB 2 rfl rfl) ?_)
                        refine seg 2 [.co [1, 1, 0, 1, 0, 1, 1, 1, 1, 1, 1, 1, 1, 1, 0, 1, 1, 1, 1, 1, 1], .bl 0, .le 0, .co [1, 1, 1]] [(2, .pointer (some (⟨g2, 0, none⟩))), (3, .pointer (some (⟨g3, 0, none⟩))), (4, .pointer (some (⟨g255, 0, none⟩))), (73, .bool (a.Call.Do == 8))] (by kernel_rfl) ?_
                        rcases condT hp236 with ⟨hb279, hp236⟩ | ⟨hb279, hp236⟩
                        · rw [hb279]
                          refine seg 3 [.op [1, 1, 0, 1, 0, 1, 1, 1, 1, 1, 1, 1, 1, 1, 0, 1, 1, 1, 1, 1, 1, 0] 1, .bl 0, .le 0, .co [1, 1, 1]] [(2, .pointer (some (⟨g2, 0, none⟩))), (3, .pointer (some (⟨g3, 0, none⟩))), (74, .pointer (some (⟨g255, 5, none⟩)))] (by kernel_rfl) ?_
                          refine st (ldR (some 75) 4 (⟨g255, 5, none⟩) (.bool a.Call.On) (by kernel_rfl) (by kernel_rfl) (H.cellB 2 rfl rfl) ?_)
                          refine seg 2 [.op [1, 1, 0, 1, 0, 1, 1, 1, 1, 1, 1, 1, 1, 1, 0, 1, 1, 1, 1, 1, 1, 0] 4, .bl 0, .le 0, .co [1, 1, 1]] [(2, .pointer (some (⟨g2, 0, none⟩))), (3, .pointer (some (⟨g3, 0, none⟩))), (75, .bool a.Call.On), (77, .pointer (some (⟨g3, 11, none⟩)))] (by kernel_rfl) ?_
                          refine st (stS none 4 1 g3 11 (.bool a.Call.On) [.int .i64 a.Do, .int .i64 0, .int .u64 0, .slice none 0 0, .int .i64 0, .slice none 0 0, .int .i64 a.Call.Do, .int .i64 a.Call.Ino, .int .i64 A, .int .i64 B_, .string ⟨([] : List UInt8).toArray⟩, .bool false] 29 H rfl (by kernel_rfl) (by kernel_rfl) rfl (of_decide_eq_true rfl) ?_)
                          intro w280 H
                          refine seg 2 [.le 0, .co [1, 1, 1]] [(2, .pointer (some (⟨g2, 0, none⟩))), (3, .pointer (some (⟨g3, 0, none⟩)))] (by kernel_rfl) ?_
                          refine leJ (0, (0 : UInt64), [], 0, [], a.Call.Do, a.Call.Ino, A, B_, ([] : List UInt8), a.Call.On, none, 0, none, 0, m) ⟨(Option.some.inj hp236).symm, (St.takeN 2 ((H.pull 1 rfl).pull 1 rfl)), (Sub.refl _), (SlI.nil _ _), (SlI.nil _ _), (Nat.le_of_ble_eq_true rfl)⟩ (by kernel_rfl)
                        · rw [hb279]
                          refine seg 3 [.le 0, .co [1, 1, 1]] [(2, .pointer (some (⟨g2, 0, none⟩))), (3, .pointer (some (⟨g3, 0, none⟩)))] (by kernel_rfl) ?_
                          refine leJ (0, (0 : UInt64), [], 0, [], a.Call.Do, a.Call.Ino, A, B_, ([] : List UInt8), false, none, 0, none, 0, m) ⟨(Option.some.inj hp236).symm, (St.takeN 2 ((H.pull 1 rfl).pull 1 rfl)), (Sub.refl _), (SlI.nil _ _), (SlI.nil _ _), (Nat.le_of_ble_eq_true rfl)⟩ (by kernel_rfl)
                · rw [hb254]
                  refine seg 3 [.op [1, 1, 0, 1, 0, 1, 1, 1, 1, 1, 1, 1, 1, 1, 1, 0] 0, .co [1, 1, 0, 1, 0, 1, 1, 1, 1, 1, 1, 1, 1, 1, 1, 1], .bl 0, .le 0, .co [1, 1, 1]] [(1, .pointer (some (⟨g1, 0, none⟩))), (2, .pointer (some (⟨g2, 0, none⟩)))] (by kernel_rfl) ?_
                  refine st (ldAggR (some 10) 29 (⟨g1, 0, none⟩) [.int .i64 a.Do, .int .i64 a.Len, .int .u64 (a.Sum.toNat : Int), .slice A0_3 a.Bytes.length c0_3, .int .i64 a.Crash.After, .slice A0_5 a.Crash.Torn.length c0_5, .int .i64 a.Call.Do, .int .i64 a.Call.Ino, .int .i64 a.Call.A, .int .i64 a.Call.B, .string ⟨a.Call.Name.toArray⟩, .bool a.Call.On] (by kernel_rfl) (by kernel_rfl) (H.cellsB 2 rfl (by rfl)) ?_)
                  refine st (stAggS none 29 1 g2 0 [.int .i64 a.Do, .int .i64 a.Len, .int .u64 (a.Sum.toNat : Int), .slice A0_3 a.Bytes.length c0_3, .int .i64 a.Crash.After, .slice A0_5 a.Crash.Torn.length c0_5, .int .i64 a.Call.Do, .int .i64 a.Call.Ino, .int .i64 a.Call.A, .int .i64 a.Call.B, .string ⟨a.Call.Name.toArray⟩, .bool a.Call.On] [.int .i64 0, .int .i64 0, .int .u64 0, .slice none 0 0, .int .i64 0, .slice none 0 0, .int .i64 0, .int .i64 0, .int .i64 0, .int .i64 0, .string ⟨([] : List UInt8).toArray⟩, .bool false] [.int .i64 a.Do, .int .i64 a.Len, .int .u64 (a.Sum.toNat : Int), .slice A0_3 a.Bytes.length c0_3, .int .i64 a.Crash.After, .slice A0_5 a.Crash.Torn.length c0_5, .int .i64 a.Call.Do, .int .i64 a.Call.Ino, .int .i64 a.Call.A, .int .i64 a.Call.B, .string ⟨a.Call.Name.toArray⟩, .bool a.Call.On] 29 H rfl (by kernel_rfl) (by kernel_rfl) (by rfl) (of_decide_eq_true rfl) rfl ?_)
                  intro w281 H
                  refine seg 1 [.co [1, 1, 0, 1, 0, 1, 1, 1, 1, 1, 1, 1, 1, 1, 1, 1], .bl 0, .le 0, .co [1, 1, 1]] [(2, .pointer (some (⟨g2, 0, none⟩)))] (by kernel_rfl) ?_
                  refine retC [.agg #[.int .i64 a.Do, .int .i64 a.Len, .int .u64 (a.Sum.toNat : Int), .slice A0_3 a.Bytes.length c0_3, .int .i64 a.Crash.After, .slice A0_5 a.Crash.Torn.length c0_5, .int .i64 a.Call.Do, .int .i64 a.Call.Ino, .int .i64 a.Call.A, .int .i64 a.Call.B, .string ⟨a.Call.Name.toArray⟩, .bool a.Call.On]] (by kernel_rfl) ⟨⟨_, rfl, ldv_agg 29 (⟨g2, 0, none⟩) [.int .i64 a.Do, .int .i64 a.Len, .int .u64 (a.Sum.toNat : Int), .slice A0_3 a.Bytes.length c0_3, .int .i64 a.Crash.After, .slice A0_5 a.Crash.Torn.length c0_5, .int .i64 a.Call.Do, .int .i64 a.Call.Ino, .int .i64 a.Call.A, .int .i64 a.Call.B, .string ⟨a.Call.Name.toArray⟩, .bool a.Call.On] (by kernel_rfl) (H.cellsB 1 rfl (by rfl))⟩, trivial⟩ ?_
                  have hret := (hfr236 _ (Option.some.inj hp236).symm)
                  subst hret
                  exact ⟨_, rfl, A0_3, c0_3, A0_5, c0_5, m, rfl, (St.takeN 0 H), s0_3, s0_5, l0_10⟩
  rintro ⟨Len, Sum, Bytes, After, Torn, Do, Ino, A, B_, Name, On, A_1_237, c_2_237, A_3_237, c_4_237, mm237⟩ wj236 ⟨hy236, H, hsub237, hs237_0, hs237_1, hl237_0⟩
  try dsimp only at hy236
  try dsimp only at H
  try dsimp only at hsub237
  try dsimp only at hs237_0
  try dsimp only at hs237_1
  try dsimp only at hl237_0
  have hf := hfl236 _ hy236
  try dsimp only at hf
  refine seg 2 [.op [1, 1, 1, 0] 0, .co [1, 1, 1, 1]] [(2, .pointer (some (⟨g2, 0, none⟩))), (3, .pointer (some (⟨g3, 0, none⟩)))] (by kernel_rfl) ?_
  refine st (ldAggR (some 78) 29 (⟨g3, 0, none⟩) [.int .i64 a.Do, .int .i64 Len, .int .u64 (Sum.toNat : Int), .slice A_1_237 Bytes.length c_2_237, .int .i64 After, .slice A_3_237 Torn.length c_4_237, .int .i64 Do, .int .i64 Ino, .int .i64 A, .int .i64 B_, .string ⟨Name.toArray⟩, .bool On] (by kernel_rfl) (by kernel_rfl) (H.cellsB 1 rfl (by rfl)) ?_)
  refine st (stAggS none 29 0 g2 0 [.int .i64 a.Do, .int .i64 Len, .int .u64 (Sum.toNat : Int), .slice A_1_237 Bytes.length c_2_237, .int .i64 After, .slice A_3_237 Torn.length c_4_237, .int .i64 Do, .int .i64 Ino, .int .i64 A, .int .i64 B_, .string ⟨Name.toArray⟩, .bool On] [.int .i64 0, .int .i64 0, .int .u64 0, .slice none 0 0, .int .i64 0, .slice none 0 0, .int .i64 0, .int .i64 0, .int .i64 0, .int .i64 0, .string ⟨([] : List UInt8).toArray⟩, .bool false] [.int .i64 a.Do, .int .i64 Len, .int .u64 (Sum.toNat : Int), .slice A_1_237 Bytes.length c_2_237, .int .i64 After, .slice A_3_237 Torn.length c_4_237, .int .i64 Do, .int .i64 Ino, .int .i64 A, .int .i64 B_, .string ⟨Name.toArray⟩, .bool On] 29 H rfl (by kernel_rfl) (by kernel_rfl) (by rfl) (of_decide_eq_true rfl) rfl ?_)
  intro w282 H
  refine seg 1 [.co [1, 1, 1, 1]] [(2, .pointer (some (⟨g2, 0, none⟩)))] (by kernel_rfl) ?_
  refine retC [.agg #[.int .i64 a.Do, .int .i64 Len, .int .u64 (Sum.toNat : Int), .slice A_1_237 Bytes.length c_2_237, .int .i64 After, .slice A_3_237 Torn.length c_4_237, .int .i64 Do, .int .i64 Ino, .int .i64 A, .int .i64 B_, .string ⟨Name.toArray⟩, .bool On]] (by kernel_rfl) ⟨⟨_, rfl, ldv_agg 29 (⟨g2, 0, none⟩) [.int .i64 a.Do, .int .i64 Len, .int .u64 (Sum.toNat : Int), .slice A_1_237 Bytes.length c_2_237, .int .i64 After, .slice A_3_237 Torn.length c_4_237, .int .i64 Do, .int .i64 Ino, .int .i64 A, .int .i64 B_, .string ⟨Name.toArray⟩, .bool On] (by kernel_rfl) (H.cellsB 0 rfl (by rfl))⟩, trivial⟩ ?_
  obtain rfl : ({ Do := a.Do, Len := Len, Sum := Sum, Bytes := Bytes, Crash := ({ After := After, Torn := Torn } : TApiCrash), Call := ({ Do := Do, Ino := Ino, A := A, B := B_, Name := Name, On := On } : TApiCall) } : TApiAct) = r := (Option.some.inj hf)
  exact ⟨_, rfl, A_1_237, c_2_237, A_3_237, c_4_237, mm237, rfl, (St.takeN 0 H), hs237_0, hs237_1, hl237_0⟩
theorem ref31_in_c {m : Mem} {w : World} (hm : Has m w) (n_ : Int) :
    Calls Tryd.prog 21 #[.int .i64 n_] w fun e w' => ∃ v, e = .returned v ∧ v = .bool (ref31_in n_) ∧ Ex w w' := by
  generalize hf : ref31_in n_ = r
  unfold ref31_in at hf
  have H := St.start0 hm
  refine callsR Tryd.func21 (by kernel_rfl) (by kernel_rfl) ?_
  refine seg 9 [.op [1, 0] 3, .co [1, 1]] [(0, .int .i64 n_), (5, .bool (decide (n_ ≥ 0)))] (by kernel_rfl) ?_
  rcases condT hf with ⟨hb2, hf⟩ | ⟨hb2, hf⟩
  · rw [hb2]
    have p2 := of_decide_eq_true hb2
    refine seg 5 [.co [1, 1]] [(2, .bool (decide (n_ ≤ 1099511627776)))] (by kernel_rfl) ?_
    refine retR [2] [.bool (decide (n_ ≤ 1099511627776))] (by kernel_rfl) (by kernel_rfl) (by kernel_rfl) ?_
    obtain rfl : (decide (n_ ≤ 1099511627776)) = r := hf
    exact ⟨_, rfl, rfl, H.scalar⟩
  · rw [hb2]
    have p2 := of_decide_eq_false hb2
    refine seg 5 [.co [1, 1]] [(2, .bool false)] (by kernel_rfl) ?_
    refine retR [2] [.bool false] (by kernel_rfl) (by kernel_rfl) (by kernel_rfl) ?_
    have hret := hf
    subst hret
    exact ⟨_, rfl, rfl, H.scalar⟩
theorem ref31_Check_c {m : Mem} {w : World} (hm : Has m w) (a : TApiAct) (A0_3 : Option Addr) (c0_3 : Nat) (s0_3 : SlI rU8 m A0_3 c0_3 a.Bytes) (A0_5 : Option Addr) (c0_5 : Nat) (s0_5 : SlI rU8 m A0_5 c0_5 a.Crash.Torn) (l0_10 : a.Call.Name.length ≤ 9223372036854775807) {r : Int} (hf : ref31_Check a = some r) :
    Calls Tryd.prog 11 #[.agg #[.int .i64 a.Do, .int .i64 a.Len, .int .u64 (a.Sum.toNat : Int), .slice A0_3 a.Bytes.length c0_3, .int .i64 a.Crash.After, .slice A0_5 a.Crash.Torn.length c0_5, .int .i64 a.Call.Do, .int .i64 a.Call.Ino, .int .i64 a.Call.A, .int .i64 a.Call.B, .string ⟨a.Call.Name.toArray⟩, .bool a.Call.On]] w fun e w' => ∃ v, e = .returned v ∧ v = .int .i64 r ∧ Ex w w' := by
  unfold ref31_Check at hf
  have H := St.start0 hm
  refine callsR Tryd.func11 (by kernel_rfl) (by kernel_rfl) ?_
  refine seg 2 [.op [0] 0, .co [1]] [(0, .agg #[.int .i64 a.Do, .int .i64 a.Len, .int .u64 (a.Sum.toNat : Int), .slice A0_3 a.Bytes.length c0_3, .int .i64 a.Crash.After, .slice A0_5 a.Crash.Torn.length c0_5, .int .i64 a.Call.Do, .int .i64 a.Call.Ino, .int .i64 a.Call.A, .int .i64 a.Call.B, .string ⟨a.Call.Name.toArray⟩, .bool a.Call.On])] (by kernel_rfl) ?_
  refine st (newS (some 1) (fun g => .pointer (some ⟨g, 0, none⟩)) [.int .i64 a.Do, .int .i64 a.Len, .int .u64 (a.Sum.toNat : Int), .slice A0_3 a.Bytes.length c0_3, .int .i64 a.Crash.After, .slice A0_5 a.Crash.Torn.length c0_5, .int .i64 a.Call.Do, .int .i64 a.Call.Ino, .int .i64 a.Call.A, .int .i64 a.Call.B, .string ⟨a.Call.Name.toArray⟩, .bool a.Call.On] 29 H (by kernel_rfl) ?_)
  intro g1 w1 H
  refine seg 6 [.op [1, 0, 0] 1, .co [1, 0, 1], .co [1, 1]] [(1, .pointer (some (⟨g1, 0, none⟩))), (4, .pointer (some (⟨g1, 0, none⟩)))] (by kernel_rfl) ?_
  refine st (ldR (some 5) 3 (⟨g1, 0, none⟩) (.int .i64 a.Do) (by kernel_rfl) (by kernel_rfl) (H.cellB 0 rfl rfl) ?_)
  refine seg 2 [.op [1, 0, 0] 4, .co [1, 0, 1], .co [1, 1]] [(1, .pointer (some (⟨g1, 0, none⟩))), (7, .bool (decide (a.Do < 1)))] (by kernel_rfl) ?_
  rcases condT hf with ⟨hb6, hf⟩ | ⟨hb6, hf⟩
  · rw [hb6]
    have p6 := of_decide_eq_true hb6
    refine seg 27 [.co [1, 0, 1, 0, 1], .co [1, 1]] [(2, .int .i64 8)] (by kernel_rfl) ?_
    refine retR [2] [.int .i64 8] (by kernel_rfl) (by kernel_rfl) (by kernel_rfl) ?_
    obtain rfl : 8 = r := (Option.some.inj hf)
    exact ⟨_, rfl, rfl, H.scalar⟩
  · rw [hb6]
    have p6 := of_decide_eq_false hb6
    refine seg 1 [.op [1, 0, 0] 5, .co [1, 0, 1], .co [1, 1]] [(1, .pointer (some (⟨g1, 0, none⟩))), (7, .bool false), (8, .pointer (some (⟨g1, 0, none⟩)))] (by kernel_rfl) ?_
    refine st (ldR (some 9) 3 (⟨g1, 0, none⟩) (.int .i64 a.Do) (by kernel_rfl) (by kernel_rfl) (H.cellB 0 rfl rfl) ?_)
    refine seg 3 [.op [1, 0, 0] 9, .co [1, 0, 1], .co [1, 1]] [(1, .pointer (some (⟨g1, 0, none⟩))), (12, .bool (decide (a.Do > 7)))] (by kernel_rfl) ?_
    rcases condT hf with ⟨hb7, hf⟩ | ⟨hb7, hf⟩
    · rw [hb7]
      have p7 := of_decide_eq_true hb7
      refine seg 22 [.co [1, 0, 1, 0, 1], .co [1, 1]] [(2, .int .i64 8)] (by kernel_rfl) ?_
      refine retR [2] [.int .i64 8] (by kernel_rfl) (by kernel_rfl) (by kernel_rfl) ?_
      obtain rfl : 8 = r := (Option.some.inj hf)
      exact ⟨_, rfl, rfl, H.scalar⟩
    · rw [hb7]
      have p7 := of_decide_eq_false hb7
      refine seg 1 [.op [1, 0, 0] 10, .co [1, 0, 1], .co [1, 1]] [(1, .pointer (some (⟨g1, 0, none⟩))), (12, .bool false), (13, .pointer (some (⟨g1, 0, none⟩)))] (by kernel_rfl) ?_
      refine st (ldR (some 14) 3 (⟨g1, 0, none⟩) (.int .i64 a.Do) (by kernel_rfl) (by kernel_rfl) (H.cellB 0 rfl rfl) ?_)
      refine seg 2 [.op [1, 0, 0] 13, .co [1, 0, 1], .co [1, 1]] [(1, .pointer (some (⟨g1, 0, none⟩))), (12, .bool false), (16, .bool (a.Do == 7))] (by kernel_rfl) ?_
      rcases condT hf with ⟨hb9, hf⟩ | ⟨hb9, hf⟩
      · rw [hb9]
        refine seg 2 [.op [1, 0, 0] 15, .co [1, 0, 1], .co [1, 1]] [(1, .pointer (some (⟨g1, 0, none⟩))), (12, .bool false), (16, .bool true), (18, .pointer (some (⟨g1, 6, none⟩)))] (by kernel_rfl) ?_
        refine st (ldR (some 19) 3 (⟨g1, 6, none⟩) (.int .i64 a.Call.Do) (by kernel_rfl) (by kernel_rfl) (H.cellB 0 rfl rfl) ?_)
        refine seg 2 [.op [1, 0, 0] 18, .co [1, 0, 1], .co [1, 1]] [(1, .pointer (some (⟨g1, 0, none⟩))), (12, .bool false), (16, .bool true), (21, .bool (decide (a.Call.Do < 1)))] (by kernel_rfl) ?_
        rcases condT hf with ⟨hb10, hf⟩ | ⟨hb10, hf⟩
        · rw [hb10]
          have p10 := of_decide_eq_true hb10
          refine seg 13 [.co [1, 0, 1, 0, 1], .co [1, 1]] [(2, .int .i64 8)] (by kernel_rfl) ?_
          refine retR [2] [.int .i64 8] (by kernel_rfl) (by kernel_rfl) (by kernel_rfl) ?_
          obtain rfl : 8 = r := (Option.some.inj hf)
          exact ⟨_, rfl, rfl, H.scalar⟩
        · rw [hb10]
          have p10 := of_decide_eq_false hb10
          refine seg 2 [.op [1, 0, 0] 20, .co [1, 0, 1], .co [1, 1]] [(1, .pointer (some (⟨g1, 0, none⟩))), (12, .bool false), (16, .bool true), (21, .bool false), (23, .pointer (some (⟨g1, 6, none⟩)))] (by kernel_rfl) ?_
          refine st (ldR (some 24) 3 (⟨g1, 6, none⟩) (.int .i64 a.Call.Do) (by kernel_rfl) (by kernel_rfl) (H.cellB 0 rfl rfl) ?_)
          refine seg 5 [.co [1, 0, 1], .co [1, 1]] [(1, .pointer (some (⟨g1, 0, none⟩))), (28, .bool (decide (a.Call.Do > 8)))] (by kernel_rfl) ?_
          rcases condT hf with ⟨hb12, hf⟩ | ⟨hb12, hf⟩
          · rw [hb12]
            have p12 := of_decide_eq_true hb12
            refine seg 5 [.co [1, 0, 1, 0, 1], .co [1, 1]] [(2, .int .i64 8)] (by kernel_rfl) ?_
            refine retR [2] [.int .i64 8] (by kernel_rfl) (by kernel_rfl) (by kernel_rfl) ?_
            obtain rfl : 8 = r := (Option.some.inj hf)
            exact ⟨_, rfl, rfl, H.scalar⟩
          · rw [hb12]
            have p12 := of_decide_eq_false hb12
            refine seg 4 [.op [1, 1, 0] 0, .co [1, 1, 1]] [(1, .pointer (some (⟨g1, 0, none⟩)))] (by kernel_rfl) ?_
            refine st (ldAggR (some 29) 29 (⟨g1, 0, none⟩) [.int .i64 a.Do, .int .i64 a.Len, .int .u64 (a.Sum.toNat : Int), .slice A0_3 a.Bytes.length c0_3, .int .i64 a.Crash.After, .slice A0_5 a.Crash.Torn.length c0_5, .int .i64 a.Call.Do, .int .i64 a.Call.Ino, .int .i64 a.Call.A, .int .i64 a.Call.B, .string ⟨a.Call.Name.toArray⟩, .bool a.Call.On] (by kernel_rfl) (by kernel_rfl) (H.cellsB 0 rfl (by rfl)) ?_)
            obtain ⟨plain, h_plain, hf⟩ := bindE hf
            refine st (callR (some 30) 13 #[.agg #[.int .i64 a.Do, .int .i64 a.Len, .int .u64 (a.Sum.toNat : Int), .slice A0_3 a.Bytes.length c0_3, .int .i64 a.Crash.After, .slice A0_5 a.Crash.Torn.length c0_5, .int .i64 a.Call.Do, .int .i64 a.Call.Ino, .int .i64 a.Call.A, .int .i64 a.Call.B, .string ⟨a.Call.Name.toArray⟩, .bool a.Call.On]] Tryd.call13 (ref31_Plain_c H.has a A0_3 c0_3 s0_3 A0_5 c0_5 s0_5 l0_10 h_plain) (by kernel_rfl) ?_)
            rintro _ w13 ⟨A13_0_3, c13_0_3, A13_0_5, c13_0_5, mk13, rfl, hS13, hs13_0, hs13_1, hl13_0⟩
            have hsub13 := hS13.sub
            replace H := H.call0 hS13
            refine st (newS (some 3) (fun g => .pointer (some ⟨g, 0, none⟩)) [.int .i64 0, .int .i64 0, .int .u64 0, .slice none 0 0, .int .i64 0, .slice none 0 0, .int .i64 0, .int .i64 0, .int .i64 0, .int .i64 0, .string ⟨([] : List UInt8).toArray⟩, .bool false] 29 H (by kernel_rfl) ?_)
            intro g14 w14 H
            refine st (stAggS none 29 0 g14 0 [.int .i64 plain.Do, .int .i64 plain.Len, .int .u64 (plain.Sum.toNat : Int), .slice A13_0_3 plain.Bytes.length c13_0_3, .int .i64 plain.Crash.After, .slice A13_0_5 plain.Crash.Torn.length c13_0_5, .int .i64 plain.Call.Do, .int .i64 plain.Call.Ino, .int .i64 plain.Call.A, .int .i64 plain.Call.B, .string ⟨plain.Call.Name.toArray⟩, .bool plain.Call.On] [.int .i64 0, .int .i64 0, .int .u64 0, .slice none 0 0, .int .i64 0, .slice none 0 0, .int .i64 0, .int .i64 0, .int .i64 0, .int .i64 0, .string ⟨([] : List UInt8).toArray⟩, .bool false] [.int .i64 plain.Do, .int .i64 plain.Len, .int .u64 (plain.Sum.toNat : Int), .slice A13_0_3 plain.Bytes.length c13_0_3, .int .i64 plain.Crash.After, .slice A13_0_5 plain.Crash.Torn.length c13_0_5, .int .i64 plain.Call.Do, .int .i64 plain.Call.Ino, .int .i64 plain.Call.A, .int .i64 plain.Call.B, .string ⟨plain.Call.Name.toArray⟩, .bool plain.Call.On] 29 H rfl (by kernel_rfl) (by kernel_rfl) (by rfl) (of_decide_eq_true rfl) rfl ?_)
            intro w15 H
            refine seg 5 [.op [1, 1, 1, 0, 0] 1, .co [1, 1, 1, 0, 1], .co [1, 1, 1, 1]] [(3, .pointer (some (⟨g14, 0, none⟩))), (31, .pointer (some (⟨g14, 1, none⟩)))] (by kernel_rfl) ?_
            refine st (ldR (some 32) 3 (⟨g14, 1, none⟩) (.int .i64 plain.Len) (by kernel_rfl) (by kernel_rfl) (H.cellB 0 rfl rfl) ?_)
            refine st (callR (some 33) 21 #[.int .i64 plain.Len] Tryd.call21 (ref31_in_c H.has plain.Len) (by kernel_rfl) ?_)
            rintro _ w28 ⟨rfl, hx28⟩
            replace H := H.ex hx28
            refine seg 2 [.op [1, 1, 1, 0, 0] 5, .co [1, 1, 1, 0, 1], .co [1, 1, 1, 1]] [(3, .pointer (some (⟨g14, 0, none⟩))), (35, .bool (!(ref31_in plain.Len)))] (by kernel_rfl) ?_
            rcases condT hf with ⟨hb29, hf⟩ | ⟨hb29, hf⟩
            · rw [hb29]
              refine seg 2 [.op [1, 1, 1, 0, 0] 7, .co [1, 1, 1, 0, 1], .co [1, 1, 1, 1]] [(3, .pointer (some (⟨g14, 0, none⟩))), (35, .bool false), (37, .pointer (some (⟨g14, 4, none⟩)))] (by kernel_rfl) ?_
              refine st (ldR (some 38) 3 (⟨g14, 4, none⟩) (.int .i64 plain.Crash.After) (by kernel_rfl) (by kernel_rfl) (H.cellB 0 rfl rfl) ?_)
              refine st (callR (some 39) 21 #[.int .i64 plain.Crash.After] Tryd.call21 (ref31_in_c H.has plain.Crash.After) (by kernel_rfl) ?_)
              rintro _ w30 ⟨rfl, hx30⟩
              replace H := H.ex hx30
              refine seg 3 [.op [1, 1, 1, 0, 0] 12, .co [1, 1, 1, 0, 1], .co [1, 1, 1, 1]] [(3, .pointer (some (⟨g14, 0, none⟩))), (42, .bool (!(ref31_in plain.Crash.After)))] (by kernel_rfl) ?_
              rcases condT hf with ⟨hb31, hf⟩ | ⟨hb31, hf⟩
              · rw [hb31]
                refine seg 2 [.op [1, 1, 1, 0, 0] 14, .co [1, 1, 1, 0, 1], .co [1, 1, 1, 1]] [(3, .pointer (some (⟨g14, 0, none⟩))), (42, .bool false), (44, .pointer (some (⟨g14, 7, none⟩)))] (by kernel_rfl) ?_
                refine st (ldR (some 45) 3 (⟨g14, 7, none⟩) (.int .i64 plain.Call.Ino) (by kernel_rfl) (by kernel_rfl) (H.cellB 0 rfl rfl) ?_)
                refine st (callR (some 46) 21 #[.int .i64 plain.Call.Ino] Tryd.call21 (ref31_in_c H.has plain.Call.Ino) (by kernel_rfl) ?_)
                rintro _ w33 ⟨rfl, hx33⟩
                replace H := H.ex hx33
                refine seg 3 [.op [1, 1, 1, 0, 0] 19, .co [1, 1, 1, 0, 1], .co [1, 1, 1, 1]] [(3, .pointer (some (⟨g14, 0, none⟩))), (49, .bool (!(ref31_in plain.Call.Ino)))] (by kernel_rfl) ?_
                rcases condT hf with ⟨hb34, hf⟩ | ⟨hb34, hf⟩
                · rw [hb34]
                  refine seg 2 [.op [1, 1, 1, 0, 0] 21, .co [1, 1, 1, 0, 1], .co [1, 1, 1, 1]] [(3, .pointer (some (⟨g14, 0, none⟩))), (49, .bool false), (51, .pointer (some (⟨g14, 8, none⟩)))] (by kernel_rfl) ?_
                  replace H : St w noF m mk13 [blkI g14 [.int .i64 plain.Do, .int .i64 plain.Len, .int .u64 (plain.Sum.toNat : Int), .slice A13_0_3 plain.Bytes.length c13_0_3, .int .i64 plain.Crash.After, .slice A13_0_5 plain.Crash.Torn.length c13_0_5, .int .i64 plain.Call.Do, .int .i64 plain.Call.Ino, .int .i64 plain.Call.A, .int .i64 plain.Call.B, .string ⟨plain.Call.Name.toArray⟩, .bool plain.Call.On] 29] w33 := (H.drop 1 rfl)
                  refine st (ldR (some 52) 3 (⟨g14, 8, none⟩) (.int .i64 plain.Call.A) (by kernel_rfl) (by kernel_rfl) (H.cellB 0 rfl rfl) ?_)
                  refine st (callR (some 53) 21 #[.int .i64 plain.Call.A] Tryd.call21 (ref31_in_c H.has plain.Call.A) (by kernel_rfl) ?_)
                  rintro _ w35 ⟨rfl, hx35⟩
                  replace H := H.ex hx35
                  refine seg 3 [.op [1, 1, 1, 0, 0] 26, .co [1, 1, 1, 0, 1], .co [1, 1, 1, 1]] [(3, .pointer (some (⟨g14, 0, none⟩))), (56, .bool (!(ref31_in plain.Call.A)))] (by kernel_rfl) ?_
                  rcases condT hf with ⟨hb36, hf⟩ | ⟨hb36, hf⟩
                  · rw [hb36]
                    refine seg 2 [.op [1, 1, 1, 0, 0] 28, .co [1, 1, 1, 0, 1], .co [1, 1, 1, 1]] [(56, .bool false), (58, .pointer (some (⟨g14, 9, none⟩)))] (by kernel_rfl) ?_
                    refine st (ldR (some 59) 3 (⟨g14, 9, none⟩) (.int .i64 plain.Call.B) (by kernel_rfl) (by kernel_rfl) (H.cellB 0 rfl rfl) ?_)
                    refine st (callR (some 60) 21 #[.int .i64 plain.Call.B] Tryd.call21 (ref31_in_c H.has plain.Call.B) (by kernel_rfl) ?_)
                    rintro _ w37 ⟨rfl, hx37⟩
                    replace H := H.ex hx37
                    refine seg 3 [.co [1, 1, 1, 0, 1], .co [1, 1, 1, 1]] [(62, .bool (!(ref31_in plain.Call.B)))] (by kernel_rfl) ?_
                    rcases condT hf with ⟨hb38, hf⟩ | ⟨hb38, hf⟩
                    · rw [hb38]
                      refine seg 6 [.co [1, 1, 1, 1, 1]] [(2, .int .i64 0)] (by kernel_rfl) ?_
                      refine retR [2] [.int .i64 0] (by kernel_rfl) (by kernel_rfl) (by kernel_rfl) ?_
                      obtain rfl : 0 = r := (Option.some.inj hf)
                      exact ⟨_, rfl, rfl, H.scalar⟩
                    · rw [hb38]
                      refine seg 5 [.co [1, 1, 1, 0, 1, 0, 1], .co [1, 1, 1, 1]] [(2, .int .i64 1)] (by kernel_rfl) ?_
                      refine retR [2] [.int .i64 1] (by kernel_rfl) (by kernel_rfl) (by kernel_rfl) ?_
                      obtain rfl : 1 = r := (Option.some.inj hf)
                      exact ⟨_, rfl, rfl, H.scalar⟩
                  · rw [hb36]
                    refine seg 12 [.co [1, 1, 1, 0, 1, 0, 1], .co [1, 1, 1, 1]] [(2, .int .i64 1)] (by kernel_rfl) ?_
                    refine retR [2] [.int .i64 1] (by kernel_rfl) (by kernel_rfl) (by kernel_rfl) ?_
                    obtain rfl : 1 = r := (Option.some.inj hf)
                    exact ⟨_, rfl, rfl, H.scalar⟩
                · rw [hb34]
                  refine seg 19 [.co [1, 1, 1, 0, 1, 0, 1], .co [1, 1, 1, 1]] [(2, .int .i64 1)] (by kernel_rfl) ?_
                  refine retR [2] [.int .i64 1] (by kernel_rfl) (by kernel_rfl) (by kernel_rfl) ?_
                  obtain rfl : 1 = r := (Option.some.inj hf)
                  exact ⟨_, rfl, rfl, H.scalar⟩
              · rw [hb31]
                refine seg 26 [.co [1, 1, 1, 0, 1, 0, 1], .co [1, 1, 1, 1]] [(2, .int .i64 1)] (by kernel_rfl) ?_
                refine retR [2] [.int .i64 1] (by kernel_rfl) (by kernel_rfl) (by kernel_rfl) ?_
                obtain rfl : 1 = r := (Option.some.inj hf)
                exact ⟨_, rfl, rfl, H.scalar⟩
            · rw [hb29]
              refine seg 33 [.co [1, 1, 1, 0, 1, 0, 1], .co [1, 1, 1, 1]] [(2, .int .i64 1)] (by kernel_rfl) ?_
              refine retR [2] [.int .i64 1] (by kernel_rfl) (by kernel_rfl) (by kernel_rfl) ?_
              obtain rfl : 1 = r := (Option.some.inj hf)
              exact ⟨_, rfl, rfl, H.scalar⟩
      · rw [hb9]
        refine seg 17 [.op [1, 1, 0] 0, .co [1, 1, 1]] [(1, .pointer (some (⟨g1, 0, none⟩)))] (by kernel_rfl) ?_
        refine st (ldAggR (some 29) 29 (⟨g1, 0, none⟩) [.int .i64 a.Do, .int .i64 a.Len, .int .u64 (a.Sum.toNat : Int), .slice A0_3 a.Bytes.length c0_3, .int .i64 a.Crash.After, .slice A0_5 a.Crash.Torn.length c0_5, .int .i64 a.Call.Do, .int .i64 a.Call.Ino, .int .i64 a.Call.A, .int .i64 a.Call.B, .string ⟨a.Call.Name.toArray⟩, .bool a.Call.On] (by kernel_rfl) (by kernel_rfl) (H.cellsB 0 rfl (by rfl)) ?_)
        obtain ⟨plain1, h_plain1, hf⟩ := bindE hf
        refine st (callR (some 30) 13 #[.agg #[.int .i64 a.Do, .int .i64 a.Len, .int .u64 (a.Sum.toNat : Int), .slice A0_3 a.Bytes.length c0_3, .int .i64 a.Crash.After, .slice A0_5 a.Crash.Torn.length c0_5, .int .i64 a.Call.Do, .int .i64 a.Call.Ino, .int .i64 a.Call.A, .int .i64 a.Call.B, .string ⟨a.Call.Name.toArray⟩, .bool a.Call.On]] Tryd.call13 (ref31_Plain_c H.has a A0_3 c0_3 s0_3 A0_5 c0_5 s0_5 l0_10 h_plain1) (by kernel_rfl) ?_)
        rintro _ w39 ⟨A39_0_3, c39_0_3, A39_0_5, c39_0_5, mk39, rfl, hS39, hs39_0, hs39_1, hl39_0⟩
        have hsub39 := hS39.sub
        replace H := H.call0 hS39
        refine st (newS (some 3) (fun g => .pointer (some ⟨g, 0, none⟩)) [.int .i64 0, .int .i64 0, .int .u64 0, .slice none 0 0, .int .i64 0, .slice none 0 0, .int .i64 0, .int .i64 0, .int .i64 0, .int .i64 0, .string ⟨([] : List UInt8).toArray⟩, .bool false] 29 H (by kernel_rfl) ?_)
        intro g40 w40 H
        replace H : St w noF m mk39 [blkI g40 [.int .i64 0, .int .i64 0, .int .u64 0, .slice none 0 0, .int .i64 0, .slice none 0 0, .int .i64 0, .int .i64 0, .int .i64 0, .int .i64 0, .string ⟨([] : List UInt8).toArray⟩, .bool false] 29] w40 := (H.drop 1 rfl)
        refine st (stAggS none 29 0 g40 0 [.int .i64 plain1.Do, .int .i64 plain1.Len, .int .u64 (plain1.Sum.toNat : Int), .slice A39_0_3 plain1.Bytes.length c39_0_3, .int .i64 plain1.Crash.After, .slice A39_0_5 plain1.Crash.Torn.length c39_0_5, .int .i64 plain1.Call.Do, .int .i64 plain1.Call.Ino, .int .i64 plain1.Call.A, .int .i64 plain1.Call.B, .string ⟨plain1.Call.Name.toArray⟩, .bool plain1.Call.On] [.int .i64 0, .int .i64 0, .int .u64 0, .slice none 0 0, .int .i64 0, .slice none 0 0, .int .i64 0, .int .i64 0, .int .i64 0, .int .i64 0, .string ⟨([] : List UInt8).toArray⟩, .bool false] [.int .i64 plain1.Do, .int .i64 plain1.Len, .int .u64 (plain1.Sum.toNat : Int), .slice A39_0_3 plain1.Bytes.length c39_0_3, .int .i64 plain1.Crash.After, .slice A39_0_5 plain1.Crash.Torn.length c39_0_5, .int .i64 plain1.Call.Do, .int .i64 plain1.Call.Ino, .int .i64 plain1.Call.A, .int .i64 plain1.Call.B, .string ⟨plain1.Call.Name.toArray⟩, .bool plain1.Call.On] 29 H rfl (by kernel_rfl) (by kernel_rfl) (by rfl) (of_decide_eq_true rfl) rfl ?_)
        intro w41 H
        refine seg 5 [.op [1, 1, 1, 0, 0] 1, .co [1, 1, 1, 0, 1], .co [1, 1, 1, 1]] [(3, .pointer (some (⟨g40, 0, none⟩))), (31, .pointer (some (⟨g40, 1, none⟩)))] (by kernel_rfl) ?_
        refine st (ldR (some 32) 3 (⟨g40, 1, none⟩) (.int .i64 plain1.Len) (by kernel_rfl) (by kernel_rfl) (H.cellB 0 rfl rfl) ?_)
        refine st (callR (some 33) 21 #[.int .i64 plain1.Len] Tryd.call21 (ref31_in_c H.has plain1.Len) (by kernel_rfl) ?_)
        rintro _ w42 ⟨rfl, hx42⟩
        replace H := H.ex hx42
        refine seg 2 [.op [1, 1, 1, 0, 0] 5, .co [1, 1, 1, 0, 1], .co [1, 1, 1, 1]] [(3, .pointer (some (⟨g40, 0, none⟩))), (35, .bool (!(ref31_in plain1.Len)))] (by kernel_rfl) ?_
        rcases condT hf with ⟨hb43, hf⟩ | ⟨hb43, hf⟩
        · rw [hb43]
          refine seg 2 [.op [1, 1, 1, 0, 0] 7, .co [1, 1, 1, 0, 1], .co [1, 1, 1, 1]] [(3, .pointer (some (⟨g40, 0, none⟩))), (35, .bool false), (37, .pointer (some (⟨g40, 4, none⟩)))] (by kernel_rfl) ?_
          refine st (ldR (some 38) 3 (⟨g40, 4, none⟩) (.int .i64 plain1.Crash.After) (by kernel_rfl) (by kernel_rfl) (H.cellB 0 rfl rfl) ?_)
          refine st (callR (some 39) 21 #[.int .i64 plain1.Crash.After] Tryd.call21 (ref31_in_c H.has plain1.Crash.After) (by kernel_rfl) ?_)
          rintro _ w44 ⟨rfl, hx44⟩
          replace H := H.ex hx44
          refine seg 3 [.op [1, 1, 1, 0, 0] 12, .co [1, 1, 1, 0, 1], .co [1, 1, 1, 1]] [(3, .pointer (some (⟨g40, 0, none⟩))), (42, .bool (!(ref31_in plain1.Crash.After)))] (by kernel_rfl) ?_
          rcases condT hf with ⟨hb45, hf⟩ | ⟨hb45, hf⟩
          · rw [hb45]
            refine seg 2 [.op [1, 1, 1, 0, 0] 14, .co [1, 1, 1, 0, 1], .co [1, 1, 1, 1]] [(3, .pointer (some (⟨g40, 0, none⟩))), (42, .bool false), (44, .pointer (some (⟨g40, 7, none⟩)))] (by kernel_rfl) ?_
            refine st (ldR (some 45) 3 (⟨g40, 7, none⟩) (.int .i64 plain1.Call.Ino) (by kernel_rfl) (by kernel_rfl) (H.cellB 0 rfl rfl) ?_)
            refine st (callR (some 46) 21 #[.int .i64 plain1.Call.Ino] Tryd.call21 (ref31_in_c H.has plain1.Call.Ino) (by kernel_rfl) ?_)
            rintro _ w46 ⟨rfl, hx46⟩
            replace H := H.ex hx46
            refine seg 3 [.op [1, 1, 1, 0, 0] 19, .co [1, 1, 1, 0, 1], .co [1, 1, 1, 1]] [(3, .pointer (some (⟨g40, 0, none⟩))), (49, .bool (!(ref31_in plain1.Call.Ino)))] (by kernel_rfl) ?_
            rcases condT hf with ⟨hb47, hf⟩ | ⟨hb47, hf⟩
            · rw [hb47]
              refine seg 2 [.op [1, 1, 1, 0, 0] 21, .co [1, 1, 1, 0, 1], .co [1, 1, 1, 1]] [(3, .pointer (some (⟨g40, 0, none⟩))), (49, .bool false), (51, .pointer (some (⟨g40, 8, none⟩)))] (by kernel_rfl) ?_
              replace H : St w noF m mk39 [blkI g40 [.int .i64 plain1.Do, .int .i64 plain1.Len, .int .u64 (plain1.Sum.toNat : Int), .slice A39_0_3 plain1.Bytes.length c39_0_3, .int .i64 plain1.Crash.After, .slice A39_0_5 plain1.Crash.Torn.length c39_0_5, .int .i64 plain1.Call.Do, .int .i64 plain1.Call.Ino, .int .i64 plain1.Call.A, .int .i64 plain1.Call.B, .string ⟨plain1.Call.Name.toArray⟩, .bool plain1.Call.On] 29] w46 := H
              refine st (ldR (some 52) 3 (⟨g40, 8, none⟩) (.int .i64 plain1.Call.A) (by kernel_rfl) (by kernel_rfl) (H.cellB 0 rfl rfl) ?_)
              refine st (callR (some 53) 21 #[.int .i64 plain1.Call.A] Tryd.call21 (ref31_in_c H.has plain1.Call.A) (by kernel_rfl) ?_)
              rintro _ w48 ⟨rfl, hx48⟩
              replace H := H.ex hx48
              refine seg 3 [.op [1, 1, 1, 0, 0] 26, .co [1, 1, 1, 0, 1], .co [1, 1, 1, 1]] [(3, .pointer (some (⟨g40, 0, none⟩))), (56, .bool (!(ref31_in plain1.Call.A)))] (by kernel_rfl) ?_
              rcases condT hf with ⟨hb49, hf⟩ | ⟨hb49, hf⟩
              · rw [hb49]
                refine seg 2 [.op [1, 1, 1, 0, 0] 28, .co [1, 1, 1, 0, 1], .co [1, 1, 1, 1]] [(56, .bool false), (58, .pointer (some (⟨g40, 9, none⟩)))] (by kernel_rfl) ?_
                refine st (ldR (some 59) 3 (⟨g40, 9, none⟩) (.int .i64 plain1.Call.B) (by kernel_rfl) (by kernel_rfl) (H.cellB 0 rfl rfl) ?_)
                refine st (callR (some 60) 21 #[.int .i64 plain1.Call.B] Tryd.call21 (ref31_in_c H.has plain1.Call.B) (by kernel_rfl) ?_)
                rintro _ w50 ⟨rfl, hx50⟩
                replace H := H.ex hx50
                refine seg 3 [.co [1, 1, 1, 0, 1], .co [1, 1, 1, 1]] [(62, .bool (!(ref31_in plain1.Call.B)))] (by kernel_rfl) ?_
                rcases condT hf with ⟨hb52, hf⟩ | ⟨hb52, hf⟩
                · rw [hb52]
                  refine seg 6 [.co [1, 1, 1, 1, 1]] [(2, .int .i64 0)] (by kernel_rfl) ?_
                  refine retR [2] [.int .i64 0] (by kernel_rfl) (by kernel_rfl) (by kernel_rfl) ?_
                  obtain rfl : 0 = r := (Option.some.inj hf)
                  exact ⟨_, rfl, rfl, H.scalar⟩
                · rw [hb52]
                  refine seg 5 [.co [1, 1, 1, 0, 1, 0, 1], .co [1, 1, 1, 1]] [(2, .int .i64 1)] (by kernel_rfl) ?_
                  refine retR [2] [.int .i64 1] (by kernel_rfl) (by kernel_rfl) (by kernel_rfl) ?_
                  obtain rfl : 1 = r := (Option.some.inj hf)
                  exact ⟨_, rfl, rfl, H.scalar⟩
              · rw [hb49]
                refine seg 12 [.co [1, 1, 1, 0, 1, 0, 1], .co [1, 1, 1, 1]] [(2, .int .i64 1)] (by kernel_rfl) ?_
                refine retR [2] [.int .i64 1] (by kernel_rfl) (by kernel_rfl) (by kernel_rfl) ?_
                obtain rfl : 1 = r := (Option.some.inj hf)
                exact ⟨_, rfl, rfl, H.scalar⟩
            · rw [hb47]
              refine seg 19 [.co [1, 1, 1, 0, 1, 0, 1], .co [1, 1, 1, 1]] [(2, .int .i64 1)] (by kernel_rfl) ?_
              refine retR [2] [.int .i64 1] (by kernel_rfl) (by kernel_rfl) (by kernel_rfl) ?_
              obtain rfl : 1 = r := (Option.some.inj hf)
              exact ⟨_, rfl, rfl, H.scalar⟩
          · rw [hb45]
            refine seg 26 [.co [1, 1, 1, 0, 1, 0, 1], .co [1, 1, 1, 1]] [(2, .int .i64 1)] (by kernel_rfl) ?_
            refine retR [2] [.int .i64 1] (by kernel_rfl) (by kernel_rfl) (by kernel_rfl) ?_
            obtain rfl : 1 = r := (Option.some.inj hf)
            exact ⟨_, rfl, rfl, H.scalar⟩
        · rw [hb43]
          refine seg 33 [.co [1, 1, 1, 0, 1, 0, 1], .co [1, 1, 1, 1]] [(2, .int .i64 1)] (by kernel_rfl) ?_
          refine retR [2] [.int .i64 1] (by kernel_rfl) (by kernel_rfl) (by kernel_rfl) ?_
          obtain rfl : 1 = r := (Option.some.inj hf)
          exact ⟨_, rfl, rfl, H.scalar⟩
end Go.Proofs.YtgoedcjjckdlpaaDoor.F
