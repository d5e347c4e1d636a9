/- The code computes them: printed by lift.py, part 5. -/
import Derived.Test.YtgoedcjjckdlpaaDoorProg
import Derived.Test.YtgoedcjjckdlpaaDoorLSP
import Derived.Test.YtgoedcjjckdlpaaDoorLS4
set_option linter.unusedVariables false
set_option linter.unusedSimpArgs false
namespace Go.Proofs.YtgoedcjjckdlpaaDoor.F
open Go Go.RowKit Go.Proofs.YtgoedcjjckdlpaaDoor Go.Proofs.YtgoedcjjckdlpaaDoor.K
set_option maxRecDepth 100000
theorem ref31_Line_c {m : Mem} {w : World} (hm : Has m w) (a : TApiAct) (A0_3 : Option Addr) (c0_3 : Nat) (s0_3 : SlI rU8 m A0_3 c0_3 a.Bytes) (A0_5 : Option Addr) (c0_5 : Nat) (s0_5 : SlI rU8 m A0_5 c0_5 a.Crash.Torn) (l0_10 : a.Call.Name.length ≤ 9223372036854775807) {r : (List UInt8)} (hf : ref31_Line a = some r) :
    Calls Tryd.prog 26 #[.agg #[.int .i64 a.Do, .int .i64 a.Len, .int .u64 (a.Sum.toNat : Int), .slice A0_3 a.Bytes.length c0_3, .int .i64 a.Crash.After, .slice A0_5 a.Crash.Torn.length c0_5, .int .i64 a.Call.Do, .int .i64 a.Call.Ino, .int .i64 a.Call.A, .int .i64 a.Call.B, .string ⟨a.Call.Name.toArray⟩, .bool a.Call.On]] w fun e w' => ∃ v, e = .returned v ∧ v = .string ⟨r.toArray⟩ ∧ Ex w w' ∧ r.length ≤ 9223372036854775807 := by
  unfold ref31_Line at hf
  have H := St.start0 hm
  refine callsR Tryd.func26 (by kernel_rfl) (by kernel_rfl) ?_
  refine seg 2 [.op [0] 0, .co [1]] [(0, .agg #[.int .i64 a.Do, .int .i64 a.Len, .int .u64 (a.Sum.toNat : Int), .slice A0_3 a.Bytes.length c0_3, .int .i64 a.Crash.After, .slice A0_5 a.Crash.Torn.length c0_5, .int .i64 a.Call.Do, .int .i64 a.Call.Ino, .int .i64 a.Call.A, .int .i64 a.Call.B, .string ⟨a.Call.Name.toArray⟩, .bool a.Call.On])] (by kernel_rfl) ?_
  refine st (newS (some 1) (fun g => .pointer (some ⟨g, 0, none⟩)) [.int .i64 a.Do, .int .i64 a.Len, .int .u64 (a.Sum.toNat : Int), .slice A0_3 a.Bytes.length c0_3, .int .i64 a.Crash.After, .slice A0_5 a.Crash.Torn.length c0_5, .int .i64 a.Call.Do, .int .i64 a.Call.Ino, .int .i64 a.Call.A, .int .i64 a.Call.B, .string ⟨a.Call.Name.toArray⟩, .bool a.Call.On] 29 H (by kernel_rfl) ?_)
  intro g1 w1 H
  refine seg 4 [.op [1, 0] 0, .co [1, 1]] [(1, .pointer (some (⟨g1, 0, none⟩)))] (by kernel_rfl) ?_
  refine st (ldAggR (some 4) 29 (⟨g1, 0, none⟩) [.int .i64 a.Do, .int .i64 a.Len, .int .u64 (a.Sum.toNat : Int), .slice A0_3 a.Bytes.length c0_3, .int .i64 a.Crash.After, .slice A0_5 a.Crash.Torn.length c0_5, .int .i64 a.Call.Do, .int .i64 a.Call.Ino, .int .i64 a.Call.A, .int .i64 a.Call.B, .string ⟨a.Call.Name.toArray⟩, .bool a.Call.On] (by kernel_rfl) (by kernel_rfl) (H.cellsB 0 rfl (by rfl)) ?_)
  obtain ⟨word_, h_word_, hf⟩ := bindE hf
  refine st (callR (some 5) 40 #[.agg #[.int .i64 a.Do, .int .i64 a.Len, .int .u64 (a.Sum.toNat : Int), .slice A0_3 a.Bytes.length c0_3, .int .i64 a.Crash.After, .slice A0_5 a.Crash.Torn.length c0_5, .int .i64 a.Call.Do, .int .i64 a.Call.Ino, .int .i64 a.Call.A, .int .i64 a.Call.B, .string ⟨a.Call.Name.toArray⟩, .bool a.Call.On]] Tryd.call40 (ref31_word_c H.has a A0_3 c0_3 s0_3 A0_5 c0_5 s0_5 l0_10 h_word_) (by kernel_rfl) ?_)
  rintro _ w2 ⟨rfl, hx2, hl2_0⟩
  replace H := H.ex hx2
  refine seg 6 [.op [1, 1, 0, 0] 1, .co [1, 1, 0, 1], .co [1, 1, 1]] [(1, .pointer (some (⟨g1, 0, none⟩))), (3, .string ⟨word_.toArray⟩), (6, .pointer (some (⟨g1, 0, none⟩)))] (by kernel_rfl) ?_
  refine st (ldR (some 7) 3 (⟨g1, 0, none⟩) (.int .i64 a.Do) (by kernel_rfl) (by kernel_rfl) (H.cellB 0 rfl rfl) ?_)
  refine seg 7 [.co [1, 1, 0, 1, 0, 1], .bl 0, .co [1, 1, 1]] [(1, .pointer (some (⟨g1, 0, none⟩))), (3, .string ⟨word_.toArray⟩), (7, .int .i64 a.Do), (8, .bool (a.Do == 1))] (by kernel_rfl) ?_
  rcases condT hf with ⟨hb214, hf⟩ | ⟨hb214, hf⟩
  · rw [hb214]
    refine seg 1 [.co [1, 1, 0, 1, 0, 1, 0], .bl 0, .co [1, 1, 1]] [(1, .pointer (some (⟨g1, 0, none⟩))), (3, .string ⟨word_.toArray⟩)] (by kernel_rfl) ?_
    obtain ⟨s_, h_s_, hf⟩ := bindE hf
    obtain ⟨digits, h_digits, hf⟩ := bindE hf
    obtain ⟨s_1, h_s_1, hf⟩ := bindE hf
    obtain ⟨s_2, h_s_2, hf⟩ := bindE hf
    obtain ⟨sixtee, h_sixtee, hf⟩ := bindE hf
    obtain ⟨s_3, h_s_3, hf⟩ := bindE hf
    have hst : statB (bodyOf Tryd.f26) [1, 1, 0, 1, 0, 1, 0] = true := by kernel_rfl
    refine drawS (fun w' => Has m w' ∧ w'.heap[g1]? = some (.cells [.int .i64 a.Do, .int .i64 a.Len, .int .u64 (a.Sum.toNat : Int), .slice A0_3 a.Bytes.length c0_3, .int .i64 a.Crash.After, .slice A0_5 a.Crash.Torn.length c0_5, .int .i64 a.Call.Do, .int .i64 a.Call.Ino, .int .i64 a.Call.A, .int .i64 a.Call.B, .string ⟨a.Call.Name.toArray⟩, .bool a.Call.On].toArray 29 (0, 0))) H (by kernel_rfl) (by kernel_rfl) ?_
    intro w221 H
    refine segD2 hst [0, 2, 7] [0, 2, 7] [(10, .string ⟨word_.toArray⟩), (12, .pointer (some (⟨g1, 1, none⟩))), (17, .pointer (some (⟨g1, 2, none⟩)))] (by kernel_rfl) ?_
    refine takeD2 (i := 1) (d := (some 11)) (s := (vS (Op.stringOp .add ⟨word_.toArray⟩ ⟨([32] : List UInt8).toArray⟩))) (v := (.string ⟨s_.toArray⟩)) hst (by kernel_rfl) (by kernel_rfl) (fun w' hw' => cat_runY 9 h_s_ (w := w')) ?_
    have hl222 : s_.length ≤ 9223372036854775807 := by obtain ⟨h1, h2⟩ := cat_some h_s_; rw [h2, List.length_append]; exact h1
    refine takeD2 (i := 3) (d := (some 13)) (s := vS (Instr.loadAt 3 (.pointer (some (⟨g1, 1, none⟩))))) (v := (.int .i64 a.Len)) hst (by kernel_rfl) (by kernel_rfl) (fun w' hw' => ld_run _ _ _ (by kernel_rfl) (blk_cell hw'.2 rfl)) ?_
    refine takeD2 (i := 8) (d := (some 18)) (s := vS (Instr.loadAt 22 (.pointer (some (⟨g1, 2, none⟩))))) (v := (.int .u64 (a.Sum.toNat : Int))) hst (by kernel_rfl) (by kernel_rfl) (fun w' hw' => ld_run _ _ _ (by kernel_rfl) (blk_cell hw'.2 rfl)) ?_
    refine stD2 (i := 4) (by kernel_rfl) ⟨H.has, H.blk 0 rfl⟩ (callR (some 14) 41 #[.int .i64 a.Len, .int .i64 10] Tryd.call41 (ref27_Digits_c H.has a.Len 10 h_digits) (by kernel_rfl) ?_)
    rintro _ w223 ⟨rfl, hx223, hl223_0⟩
    replace H := H.ex hx223
    refine takeD2 (i := 5) (d := (some 15)) (s := (vS (Op.stringOp .add ⟨s_.toArray⟩ ⟨digits.toArray⟩))) (v := (.string ⟨s_1.toArray⟩)) hst (by kernel_rfl) (by kernel_rfl) (fun w' hw' => cat_runY 9 h_s_1 (w := w')) ?_
    have hl224 : s_1.length ≤ 9223372036854775807 := by obtain ⟨h1, h2⟩ := cat_some h_s_1; rw [h2, List.length_append]; exact h1
    refine takeD2 (i := 6) (d := (some 16)) (s := (vS (Op.stringOp .add ⟨s_1.toArray⟩ ⟨([32] : List UInt8).toArray⟩))) (v := (.string ⟨s_2.toArray⟩)) hst (by kernel_rfl) (by kernel_rfl) (fun w' hw' => cat_runY 9 h_s_2 (w := w')) ?_
    have hl225 : s_2.length ≤ 9223372036854775807 := by obtain ⟨h1, h2⟩ := cat_some h_s_2; rw [h2, List.length_append]; exact h1
    replace H : St w noF m m [blkI g1 [.int .i64 a.Do, .int .i64 a.Len, .int .u64 (a.Sum.toNat : Int), .slice A0_3 a.Bytes.length c0_3, .int .i64 a.Crash.After, .slice A0_5 a.Crash.Torn.length c0_5, .int .i64 a.Call.Do, .int .i64 a.Call.Ino, .int .i64 a.Call.A, .int .i64 a.Call.B, .string ⟨a.Call.Name.toArray⟩, .bool a.Call.On] 29] w223 := H
    refine stD2 (i := 9) (by kernel_rfl) ⟨H.has, H.blk 0 rfl⟩ (callR (some 19) 42 #[.int .u64 (a.Sum.toNat : Int)] Tryd.call42 (ref31_sixteen_c H.has a.Sum h_sixtee) (by kernel_rfl) ?_)
    rintro _ w226 ⟨rfl, hx226, hl226_0⟩
    replace H := H.ex hx226
    refine stD2 (i := 10) (by kernel_rfl) ⟨H.has, H.blk 0 rfl⟩ (catS (some 20) 9 s_2 sixtee s_3 (by kernel_rfl) h_s_3 ?_)
    have hl227 : s_3.length ≤ 9223372036854775807 := by obtain ⟨h1, h2⟩ := cat_some h_s_3; rw [h2, List.length_append]; exact h1
    refine segD2 hst [11] [0, 2, 7, 1, 3, 8, 4, 5, 6, 9, 10, 11] [(3, .string ⟨s_3.toArray⟩)] (by kernel_rfl) ?_
    refine endD2 (by kernel_rfl) ⟨H.has, H.blk 0 rfl⟩ ?_
    refine seg 4 [.op [1, 1, 1, 0] 1, .co [1, 1, 1, 1]] [(92, .string ⟨s_3.toArray⟩)] (by kernel_rfl) ?_
    obtain ⟨s_4, h_s_4, hf⟩ := bindE hf
    refine st (catS (some 93) 9 s_3 ([10] : List UInt8) s_4 (by kernel_rfl) h_s_4 ?_)
    have hl228 : s_4.length ≤ 9223372036854775807 := by obtain ⟨h1, h2⟩ := cat_some h_s_4; rw [h2, List.length_append]; exact h1
    refine seg 2 [.co [1, 1, 1, 1]] [(2, .string ⟨s_4.toArray⟩)] (by kernel_rfl) ?_
    refine retR [2] [.string ⟨s_4.toArray⟩] (by kernel_rfl) (by kernel_rfl) (by kernel_rfl) ?_
    have hret := (Option.some.inj hf)
    subst hret
    exact ⟨_, rfl, rfl, H.scalar, hl228⟩
  · rw [hb214]
    refine seg 6 [.co [1, 1, 0, 1, 0, 1, 1, 1], .bl 0, .co [1, 1, 1]] [(1, .pointer (some (⟨g1, 0, none⟩))), (3, .string ⟨word_.toArray⟩), (7, .int .i64 a.Do), (21, .bool (a.Do == 2))] (by kernel_rfl) ?_
    obtain ⟨y264, hp264, hf⟩ := bindE hf
    refine joinR 0 (fun (x : (List UInt8)) => [(3, .string ⟨x.toArray⟩)]) (fun (x : (List UInt8)) (wj264 : World) => y264 = x ∧ St w noF m m [] wj264 ∧ x.length ≤ 9223372036854775807) (by kernel_rfl) ?_ ?_
    · rcases condT hp264 with ⟨hb266, hp264⟩ | ⟨hb266, hp264⟩
      · rw [hb266]
        refine seg 3 [.op [1, 1, 0, 1, 0, 1, 1, 1, 0] 1, .le 0, .bl 0, .co [1, 1, 1]] [(1, .pointer (some (⟨g1, 0, none⟩))), (23, .string ⟨word_.toArray⟩)] (by kernel_rfl) ?_
        obtain ⟨s_5, h_s_5, hp264⟩ := bindE hp264
        refine st (catS (some 24) 9 word_ ([32] : List UInt8) s_5 (by kernel_rfl) h_s_5 ?_)
        have hl267 : s_5.length ≤ 9223372036854775807 := by obtain ⟨h1, h2⟩ := cat_some h_s_5; rw [h2, List.length_append]; exact h1
        refine seg 1 [.op [1, 1, 0, 1, 0, 1, 1, 1, 0] 3, .le 0, .bl 0, .co [1, 1, 1]] [(24, .string ⟨s_5.toArray⟩), (25, .pointer (some (⟨g1, 3, none⟩)))] (by kernel_rfl) ?_
        refine st (ldR (some 26) 23 (⟨g1, 3, none⟩) (.slice A0_3 a.Bytes.length c0_3) (by kernel_rfl) (by kernel_rfl) (H.cellB 0 rfl rfl) ?_)
        obtain ⟨hex, h_hex, hp264⟩ := bindE hp264
        refine st (callR (some 27) 43 #[.slice A0_3 a.Bytes.length c0_3] Tryd.call43 (ref31_hex_c H.has a.Bytes A0_3 c0_3 s0_3 h_hex) (by kernel_rfl) ?_)
        rintro _ w268 ⟨rfl, hx268, hl268_0⟩
        replace H := H.ex hx268
        obtain ⟨s_6, h_s_6, hp264⟩ := bindE hp264
        refine st (catS (some 28) 9 s_5 hex s_6 (by kernel_rfl) h_s_6 ?_)
        have hl269 : s_6.length ≤ 9223372036854775807 := by obtain ⟨h1, h2⟩ := cat_some h_s_6; rw [h2, List.length_append]; exact h1
        refine seg 2 [.le 0, .bl 0, .co [1, 1, 1]] [(3, .string ⟨s_6.toArray⟩)] (by kernel_rfl) ?_
        refine leJ (s_6) ⟨(Option.some.inj hp264).symm, (St.takeN 0 H), hl269⟩ (by kernel_rfl)
      · rw [hb266]
        refine seg 6 [.co [1, 1, 0, 1, 0, 1, 1, 1, 1, 1], .le 0, .bl 0, .co [1, 1, 1]] [(1, .pointer (some (⟨g1, 0, none⟩))), (3, .string ⟨word_.toArray⟩), (7, .int .i64 a.Do), (29, .bool (a.Do == 5))] (by kernel_rfl) ?_
        rcases condT hp264 with ⟨hb270, hp264⟩ | ⟨hb270, hp264⟩
        · rw [hb270]
          refine seg 1 [.co [1, 1, 0, 1, 0, 1, 1, 1, 1, 1, 0], .le 0, .bl 0, .co [1, 1, 1]] [(1, .pointer (some (⟨g1, 0, none⟩))), (3, .string ⟨word_.toArray⟩)] (by kernel_rfl) ?_
          obtain ⟨s_7, h_s_7, hp264⟩ := bindE hp264
          obtain ⟨digits1, h_digits1, hp264⟩ := bindE hp264
          obtain ⟨s_8, h_s_8, hp264⟩ := bindE hp264
          obtain ⟨s_9, h_s_9, hp264⟩ := bindE hp264
          obtain ⟨hex1, h_hex1, hp264⟩ := bindE hp264
          obtain ⟨s_10, h_s_10, hp264⟩ := bindE hp264
          have hst : statB (bodyOf Tryd.f26) [1, 1, 0, 1, 0, 1, 1, 1, 1, 1, 0] = true := by kernel_rfl
          refine drawS (fun w' => Has m w' ∧ w'.heap[g1]? = some (.cells [.int .i64 a.Do, .int .i64 a.Len, .int .u64 (a.Sum.toNat : Int), .slice A0_3 a.Bytes.length c0_3, .int .i64 a.Crash.After, .slice A0_5 a.Crash.Torn.length c0_5, .int .i64 a.Call.Do, .int .i64 a.Call.Ino, .int .i64 a.Call.A, .int .i64 a.Call.B, .string ⟨a.Call.Name.toArray⟩, .bool a.Call.On].toArray 29 (0, 0))) H (by kernel_rfl) (by kernel_rfl) ?_
          intro w277 H
          refine segD2 hst [0, 2, 3, 8, 9] [0, 2, 3, 8, 9] [(31, .string ⟨word_.toArray⟩), (34, .pointer (some (⟨g1, 4, none⟩))), (40, .pointer (some (⟨g1, 5, none⟩)))] (by kernel_rfl) ?_
          refine takeD2 (i := 1) (d := (some 32)) (s := (vS (Op.stringOp .add ⟨word_.toArray⟩ ⟨([32] : List UInt8).toArray⟩))) (v := (.string ⟨s_7.toArray⟩)) hst (by kernel_rfl) (by kernel_rfl) (fun w' hw' => cat_runY 9 h_s_7 (w := w')) ?_
          have hl278 : s_7.length ≤ 9223372036854775807 := by obtain ⟨h1, h2⟩ := cat_some h_s_7; rw [h2, List.length_append]; exact h1
          refine takeD2 (i := 4) (d := (some 35)) (s := vS (Instr.loadAt 3 (.pointer (some (⟨g1, 4, none⟩))))) (v := (.int .i64 a.Crash.After)) hst (by kernel_rfl) (by kernel_rfl) (fun w' hw' => ld_run _ _ _ (by kernel_rfl) (blk_cell hw'.2 rfl)) ?_
          refine takeD2 (i := 10) (d := (some 41)) (s := vS (Instr.loadAt 23 (.pointer (some (⟨g1, 5, none⟩))))) (v := (.slice A0_5 a.Crash.Torn.length c0_5)) hst (by kernel_rfl) (by kernel_rfl) (fun w' hw' => ld_run _ _ _ (by kernel_rfl) (blk_cell hw'.2 rfl)) ?_
          replace H : St w noF m m [blkI g1 [.int .i64 a.Do, .int .i64 a.Len, .int .u64 (a.Sum.toNat : Int), .slice A0_3 a.Bytes.length c0_3, .int .i64 a.Crash.After, .slice A0_5 a.Crash.Torn.length c0_5, .int .i64 a.Call.Do, .int .i64 a.Call.Ino, .int .i64 a.Call.A, .int .i64 a.Call.B, .string ⟨a.Call.Name.toArray⟩, .bool a.Call.On] 29] w277 := H
          refine stD2 (i := 5) (by kernel_rfl) ⟨H.has, H.blk 0 rfl⟩ (callR (some 36) 41 #[.int .i64 a.Crash.After, .int .i64 10] Tryd.call41 (ref27_Digits_c H.has a.Crash.After 10 h_digits1) (by kernel_rfl) ?_)
          rintro _ w279 ⟨rfl, hx279, hl279_0⟩
          replace H := H.ex hx279
          refine takeD2 (i := 6) (d := (some 37)) (s := (vS (Op.stringOp .add ⟨s_7.toArray⟩ ⟨digits1.toArray⟩))) (v := (.string ⟨s_8.toArray⟩)) hst (by kernel_rfl) (by kernel_rfl) (fun w' hw' => cat_runY 9 h_s_8 (w := w')) ?_
          have hl280 : s_8.length ≤ 9223372036854775807 := by obtain ⟨h1, h2⟩ := cat_some h_s_8; rw [h2, List.length_append]; exact h1
          refine takeD2 (i := 7) (d := (some 38)) (s := (vS (Op.stringOp .add ⟨s_8.toArray⟩ ⟨([32] : List UInt8).toArray⟩))) (v := (.string ⟨s_9.toArray⟩)) hst (by kernel_rfl) (by kernel_rfl) (fun w' hw' => cat_runY 9 h_s_9 (w := w')) ?_
          have hl281 : s_9.length ≤ 9223372036854775807 := by obtain ⟨h1, h2⟩ := cat_some h_s_9; rw [h2, List.length_append]; exact h1
          refine stD2 (i := 11) (by kernel_rfl) ⟨H.has, H.blk 0 rfl⟩ (callR (some 42) 43 #[.slice A0_5 a.Crash.Torn.length c0_5] Tryd.call43 (ref31_hex_c H.has a.Crash.Torn A0_5 c0_5 s0_5 h_hex1) (by kernel_rfl) ?_)
          rintro _ w282 ⟨rfl, hx282, hl282_0⟩
          replace H := H.ex hx282
          refine stD2 (i := 12) (by kernel_rfl) ⟨H.has, H.blk 0 rfl⟩ (catS (some 43) 9 s_9 hex1 s_10 (by kernel_rfl) h_s_10 ?_)
          have hl283 : s_10.length ≤ 9223372036854775807 := by obtain ⟨h1, h2⟩ := cat_some h_s_10; rw [h2, List.length_append]; exact h1
          refine segD2 hst [13] [0, 2, 3, 8, 9, 1, 4, 10, 5, 6, 7, 11, 12, 13] [(3, .string ⟨s_10.toArray⟩)] (by kernel_rfl) ?_
          refine endD2 (by kernel_rfl) ⟨H.has, H.blk 0 rfl⟩ ?_
          refine leJ (s_10) ⟨(Option.some.inj hp264).symm, (St.takeN 0 H), hl283⟩ (by kernel_rfl)
        · rw [hb270]
          refine seg 6 [.co [1, 1, 0, 1, 0, 1, 1, 1, 1, 1, 1, 1], .le 0, .bl 0, .co [1, 1, 1]] [(1, .pointer (some (⟨g1, 0, none⟩))), (3, .string ⟨word_.toArray⟩), (44, .bool (a.Do == 7))] (by kernel_rfl) ?_
          rcases condT hp264 with ⟨hb284, hp264⟩ | ⟨hb284, hp264⟩
          · rw [hb284]
            refine seg 4 [.op [1, 1, 0, 1, 0, 1, 1, 1, 1, 1, 1, 1, 0, 0] 1, .co [1, 1, 0, 1, 0, 1, 1, 1, 1, 1, 1, 1, 0, 1], .le 0, .bl 0, .co [1, 1, 1]] [(1, .pointer (some (⟨g1, 0, none⟩))), (46, .string ⟨word_.toArray⟩)] (by kernel_rfl) ?_
            obtain ⟨s_11, h_s_11, hp264⟩ := bindE hp264
            refine st (catS (some 47) 9 word_ ([32] : List UInt8) s_11 (by kernel_rfl) h_s_11 ?_)
            have hl285 : s_11.length ≤ 9223372036854775807 := by obtain ⟨h1, h2⟩ := cat_some h_s_11; rw [h2, List.length_append]; exact h1
            refine seg 2 [.op [1, 1, 0, 1, 0, 1, 1, 1, 1, 1, 1, 1, 0, 0] 4, .co [1, 1, 0, 1, 0, 1, 1, 1, 1, 1, 1, 1, 0, 1], .le 0, .bl 0, .co [1, 1, 1]] [(1, .pointer (some (⟨g1, 0, none⟩))), (47, .string ⟨s_11.toArray⟩), (49, .pointer (some (⟨g1, 7, none⟩)))] (by kernel_rfl) ?_
            refine st (ldR (some 50) 3 (⟨g1, 7, none⟩) (.int .i64 a.Call.Ino) (by kernel_rfl) (by kernel_rfl) (H.cellB 0 rfl rfl) ?_)
            obtain ⟨digits2, h_digits2, hp264⟩ := bindE hp264
            refine st (callR (some 51) 41 #[.int .i64 a.Call.Ino, .int .i64 10] Tryd.call41 (ref27_Digits_c H.has a.Call.Ino 10 h_digits2) (by kernel_rfl) ?_)
            rintro _ w286 ⟨rfl, hx286, hl286_0⟩
            replace H := H.ex hx286
            obtain ⟨s_12, h_s_12, hp264⟩ := bindE hp264
            refine st (catS (some 52) 9 s_11 digits2 s_12 (by kernel_rfl) h_s_12 ?_)
            have hl287 : s_12.length ≤ 9223372036854775807 := by obtain ⟨h1, h2⟩ := cat_some h_s_12; rw [h2, List.length_append]; exact h1
            refine seg 7 [.op [1, 1, 0, 1, 0, 1, 1, 1, 1, 1, 1, 1, 0, 1, 0, 0] 2, .co [1, 1, 0, 1, 0, 1, 1, 1, 1, 1, 1, 1, 0, 1, 0, 1], .co [1, 1, 0, 1, 0, 1, 1, 1, 1, 1, 1, 1, 0, 1, 1], .le 0, .bl 0, .co [1, 1, 1]] [(1, .pointer (some (⟨g1, 0, none⟩))), (3, .string ⟨s_12.toArray⟩), (54, .pointer (some (⟨g1, 6, none⟩)))] (by kernel_rfl) ?_
            refine st (ldR (some 55) 3 (⟨g1, 6, none⟩) (.int .i64 a.Call.Do) (by kernel_rfl) (by kernel_rfl) (H.cellB 0 rfl rfl) ?_)
            refine st (callR (some 56) 22 #[.int .i64 a.Call.Do] Tryd.call22 (ref31_three_c H.has a.Call.Do) (by kernel_rfl) ?_)
            rintro _ w288 ⟨rfl, hx288⟩
            replace H := H.ex hx288
            refine seg 1 [.co [1, 1, 0, 1, 0, 1, 1, 1, 1, 1, 1, 1, 0, 1, 0, 1], .co [1, 1, 0, 1, 0, 1, 1, 1, 1, 1, 1, 1, 0, 1, 1], .le 0, .bl 0, .co [1, 1, 1]] [(1, .pointer (some (⟨g1, 0, none⟩))), (3, .string ⟨s_12.toArray⟩), (56, .bool (ref31_three a.Call.Do))] (by kernel_rfl) ?_
            obtain ⟨y296, hp296, hp264⟩ := bindE hp264
            refine joinR 1 (fun (x : (List UInt8)) => [(1, .pointer (some (⟨g1, 0, none⟩))), (3, .string ⟨x.toArray⟩)]) (fun (x : (List UInt8)) (wj296 : World) => y296 = x ∧ St w noF m m [blkI g1 [.int .i64 a.Do, .int .i64 a.Len, .int .u64 (a.Sum.toNat : Int), .slice A0_3 a.Bytes.length c0_3, .int .i64 a.Crash.After, .slice A0_5 a.Crash.Torn.length c0_5, .int .i64 a.Call.Do, .int .i64 a.Call.Ino, .int .i64 a.Call.A, .int .i64 a.Call.B, .string ⟨a.Call.Name.toArray⟩, .bool a.Call.On] 29] wj296 ∧ x.length ≤ 9223372036854775807) (by kernel_rfl) ?_ ?_
            · rcases condT hp296 with ⟨hb298, hp296⟩ | ⟨hb298, hp296⟩
              · rw [hb298]
                refine seg 1 [.co [1, 1, 0, 1, 0, 1, 1, 1, 1, 1, 1, 1, 0, 1, 0, 1, 0], .le 1, .co [1, 1, 0, 1, 0, 1, 1, 1, 1, 1, 1, 1, 0, 1, 1], .le 0, .bl 0, .co [1, 1, 1]] [(1, .pointer (some (⟨g1, 0, none⟩))), (3, .string ⟨s_12.toArray⟩)] (by kernel_rfl) ?_
                obtain ⟨s_13, h_s_13, hp296⟩ := bindE hp296
                obtain ⟨digits3, h_digits3, hp296⟩ := bindE hp296
                obtain ⟨s_14, h_s_14, hp296⟩ := bindE hp296
                obtain ⟨s_15, h_s_15, hp296⟩ := bindE hp296
                obtain ⟨digits4, h_digits4, hp296⟩ := bindE hp296
                obtain ⟨s_16, h_s_16, hp296⟩ := bindE hp296
                have hst : statB (bodyOf Tryd.f26) [1, 1, 0, 1, 0, 1, 1, 1, 1, 1, 1, 1, 0, 1, 0, 1, 0] = true := by kernel_rfl
                refine drawS (fun w' => Has m w' ∧ w'.heap[g1]? = some (.cells [.int .i64 a.Do, .int .i64 a.Len, .int .u64 (a.Sum.toNat : Int), .slice A0_3 a.Bytes.length c0_3, .int .i64 a.Crash.After, .slice A0_5 a.Crash.Torn.length c0_5, .int .i64 a.Call.Do, .int .i64 a.Call.Ino, .int .i64 a.Call.A, .int .i64 a.Call.B, .string ⟨a.Call.Name.toArray⟩, .bool a.Call.On].toArray 29 (0, 0))) H (by kernel_rfl) (by kernel_rfl) ?_
                intro w305 H
                refine segD2 hst [0, 2, 3, 8, 9] [0, 2, 3, 8, 9] [(1, .pointer (some (⟨g1, 0, none⟩))), (57, .string ⟨s_12.toArray⟩), (60, .pointer (some (⟨g1, 8, none⟩))), (66, .pointer (some (⟨g1, 9, none⟩)))] (by kernel_rfl) ?_
                refine takeD2 (i := 1) (d := (some 58)) (s := (vS (Op.stringOp .add ⟨s_12.toArray⟩ ⟨([32] : List UInt8).toArray⟩))) (v := (.string ⟨s_13.toArray⟩)) hst (by kernel_rfl) (by kernel_rfl) (fun w' hw' => cat_runY 9 h_s_13 (w := w')) ?_
                have hl306 : s_13.length ≤ 9223372036854775807 := by obtain ⟨h1, h2⟩ := cat_some h_s_13; rw [h2, List.length_append]; exact h1
                refine takeD2 (i := 4) (d := (some 61)) (s := vS (Instr.loadAt 3 (.pointer (some (⟨g1, 8, none⟩))))) (v := (.int .i64 a.Call.A)) hst (by kernel_rfl) (by kernel_rfl) (fun w' hw' => ld_run _ _ _ (by kernel_rfl) (blk_cell hw'.2 rfl)) ?_
                refine takeD2 (i := 10) (d := (some 67)) (s := vS (Instr.loadAt 3 (.pointer (some (⟨g1, 9, none⟩))))) (v := (.int .i64 a.Call.B)) hst (by kernel_rfl) (by kernel_rfl) (fun w' hw' => ld_run _ _ _ (by kernel_rfl) (blk_cell hw'.2 rfl)) ?_
                replace H : St w noF m m [blkI g1 [.int .i64 a.Do, .int .i64 a.Len, .int .u64 (a.Sum.toNat : Int), .slice A0_3 a.Bytes.length c0_3, .int .i64 a.Crash.After, .slice A0_5 a.Crash.Torn.length c0_5, .int .i64 a.Call.Do, .int .i64 a.Call.Ino, .int .i64 a.Call.A, .int .i64 a.Call.B, .string ⟨a.Call.Name.toArray⟩, .bool a.Call.On] 29] w305 := H
                refine stD2 (i := 5) (by kernel_rfl) ⟨H.has, H.blk 0 rfl⟩ (callR (some 62) 41 #[.int .i64 a.Call.A, .int .i64 10] Tryd.call41 (ref27_Digits_c H.has a.Call.A 10 h_digits3) (by kernel_rfl) ?_)
                rintro _ w307 ⟨rfl, hx307, hl307_0⟩
                replace H := H.ex hx307
                refine takeD2 (i := 6) (d := (some 63)) (s := (vS (Op.stringOp .add ⟨s_13.toArray⟩ ⟨digits3.toArray⟩))) (v := (.string ⟨s_14.toArray⟩)) hst (by kernel_rfl) (by kernel_rfl) (fun w' hw' => cat_runY 9 h_s_14 (w := w')) ?_
                have hl308 : s_14.length ≤ 9223372036854775807 := by obtain ⟨h1, h2⟩ := cat_some h_s_14; rw [h2, List.length_append]; exact h1
                refine takeD2 (i := 7) (d := (some 64)) (s := (vS (Op.stringOp .add ⟨s_14.toArray⟩ ⟨([32] : List UInt8).toArray⟩))) (v := (.string ⟨s_15.toArray⟩)) hst (by kernel_rfl) (by kernel_rfl) (fun w' hw' => cat_runY 9 h_s_15 (w := w')) ?_
                have hl309 : s_15.length ≤ 9223372036854775807 := by obtain ⟨h1, h2⟩ := cat_some h_s_15; rw [h2, List.length_append]; exact h1
                refine stD2 (i := 11) (by kernel_rfl) ⟨H.has, H.blk 0 rfl⟩ (callR (some 68) 41 #[.int .i64 a.Call.B, .int .i64 10] Tryd.call41 (ref27_Digits_c H.has a.Call.B 10 h_digits4) (by kernel_rfl) ?_)
                rintro _ w310 ⟨rfl, hx310, hl310_0⟩
                replace H := H.ex hx310
                refine stD2 (i := 12) (by kernel_rfl) ⟨H.has, H.blk 0 rfl⟩ (catS (some 69) 9 s_15 digits4 s_16 (by kernel_rfl) h_s_16 ?_)
                have hl311 : s_16.length ≤ 9223372036854775807 := by obtain ⟨h1, h2⟩ := cat_some h_s_16; rw [h2, List.length_append]; exact h1
                refine segD2 hst [13] [0, 2, 3, 8, 9, 1, 4, 10, 5, 6, 7, 11, 12, 13] [(1, .pointer (some (⟨g1, 0, none⟩))), (3, .string ⟨s_16.toArray⟩)] (by kernel_rfl) ?_
                refine endD2 (by kernel_rfl) ⟨H.has, H.blk 0 rfl⟩ ?_
                refine leJ (s_16) ⟨(Option.some.inj hp296).symm, H, hl311⟩ (by kernel_rfl)
              · rw [hb298]
                refine seg 2 [.le 1, .co [1, 1, 0, 1, 0, 1, 1, 1, 1, 1, 1, 1, 0, 1, 1], .le 0, .bl 0, .co [1, 1, 1]] [(1, .pointer (some (⟨g1, 0, none⟩))), (3, .string ⟨s_12.toArray⟩)] (by kernel_rfl) ?_
                refine leJ (s_12) ⟨(Option.some.inj hp296).symm, H, hl287⟩ (by kernel_rfl)
            rintro s_13 wj296 ⟨hy296, H, hl297_0⟩
            rw [hy296] at hp264
            refine seg 5 [.op [1, 1, 0, 1, 0, 1, 1, 1, 1, 1, 1, 1, 0, 1, 1, 0, 0] 2, .co [1, 1, 0, 1, 0, 1, 1, 1, 1, 1, 1, 1, 0, 1, 1, 0, 1], .co [1, 1, 0, 1, 0, 1, 1, 1, 1, 1, 1, 1, 0, 1, 1, 1], .le 0, .bl 0, .co [1, 1, 1]] [(1, .pointer (some (⟨g1, 0, none⟩))), (3, .string ⟨s_13.toArray⟩), (71, .pointer (some (⟨g1, 6, none⟩)))] (by kernel_rfl) ?_
            refine st (ldR (some 72) 3 (⟨g1, 6, none⟩) (.int .i64 a.Call.Do) (by kernel_rfl) (by kernel_rfl) (H.cellB 0 rfl rfl) ?_)
            refine st (callR (some 73) 23 #[.int .i64 a.Call.Do] Tryd.call23 (ref31_named_c H.has a.Call.Do) (by kernel_rfl) ?_)
            rintro _ w312 ⟨rfl, hx312⟩
            replace H := H.ex hx312
            refine seg 1 [.co [1, 1, 0, 1, 0, 1, 1, 1, 1, 1, 1, 1, 0, 1, 1, 0, 1], .co [1, 1, 0, 1, 0, 1, 1, 1, 1, 1, 1, 1, 0, 1, 1, 1], .le 0, .bl 0, .co [1, 1, 1]] [(1, .pointer (some (⟨g1, 0, none⟩))), (3, .string ⟨s_13.toArray⟩), (73, .bool (ref31_named a.Call.Do))] (by kernel_rfl) ?_
            rcases condT hp264 with ⟨hb313, hp264⟩ | ⟨hb313, hp264⟩
            · rw [hb313]
              refine seg 3 [.op [1, 1, 0, 1, 0, 1, 1, 1, 1, 1, 1, 1, 0, 1, 1, 0, 1, 0] 1, .co [1, 1, 0, 1, 0, 1, 1, 1, 1, 1, 1, 1, 0, 1, 1, 1], .le 0, .bl 0, .co [1, 1, 1]] [(1, .pointer (some (⟨g1, 0, none⟩))), (74, .string ⟨s_13.toArray⟩)] (by kernel_rfl) ?_
              obtain ⟨s_17, h_s_17, hp264⟩ := bindE hp264
              refine st (catS (some 75) 9 s_13 ([32] : List UInt8) s_17 (by kernel_rfl) h_s_17 ?_)
              have hl314 : s_17.length ≤ 9223372036854775807 := by obtain ⟨h1, h2⟩ := cat_some h_s_17; rw [h2, List.length_append]; exact h1
              refine seg 2 [.op [1, 1, 0, 1, 0, 1, 1, 1, 1, 1, 1, 1, 0, 1, 1, 0, 1, 0] 4, .co [1, 1, 0, 1, 0, 1, 1, 1, 1, 1, 1, 1, 0, 1, 1, 1], .le 0, .bl 0, .co [1, 1, 1]] [(1, .pointer (some (⟨g1, 0, none⟩))), (75, .string ⟨s_17.toArray⟩), (77, .pointer (some (⟨g1, 10, none⟩)))] (by kernel_rfl) ?_
              refine st (ldR (some 78) 9 (⟨g1, 10, none⟩) (.string ⟨a.Call.Name.toArray⟩) (by kernel_rfl) (by kernel_rfl) (H.cellB 0 rfl rfl) ?_)
              obtain ⟨quote, h_quote, hp264⟩ := bindE hp264
              refine st (callR (some 79) 44 #[.string ⟨a.Call.Name.toArray⟩] Tryd.call44 (ref27_Quote_c H.has a.Call.Name l0_10 h_quote) (by kernel_rfl) ?_)
              rintro _ w315 ⟨rfl, hx315, hl315_0⟩
              replace H := H.ex hx315
              replace H : St w noF m m [blkI g1 [.int .i64 a.Do, .int .i64 a.Len, .int .u64 (a.Sum.toNat : Int), .slice A0_3 a.Bytes.length c0_3, .int .i64 a.Crash.After, .slice A0_5 a.Crash.Torn.length c0_5, .int .i64 a.Call.Do, .int .i64 a.Call.Ino, .int .i64 a.Call.A, .int .i64 a.Call.B, .string ⟨a.Call.Name.toArray⟩, .bool a.Call.On] 29] w315 := H
              obtain ⟨s_18, h_s_18, hp264⟩ := bindE hp264
              refine st (catS (some 80) 9 s_17 quote s_18 (by kernel_rfl) h_s_18 ?_)
              have hl316 : s_18.length ≤ 9223372036854775807 := by obtain ⟨h1, h2⟩ := cat_some h_s_18; rw [h2, List.length_append]; exact h1
              refine seg 6 [.op [1, 1, 0, 1, 0, 1, 1, 1, 1, 1, 1, 1, 0, 1, 1, 1, 0] 2, .co [1, 1, 0, 1, 0, 1, 1, 1, 1, 1, 1, 1, 0, 1, 1, 1, 1], .le 0, .bl 0, .co [1, 1, 1]] [(1, .pointer (some (⟨g1, 0, none⟩))), (3, .string ⟨s_18.toArray⟩), (82, .pointer (some (⟨g1, 6, none⟩)))] (by kernel_rfl) ?_
              refine st (ldR (some 83) 3 (⟨g1, 6, none⟩) (.int .i64 a.Call.Do) (by kernel_rfl) (by kernel_rfl) (H.cellB 0 rfl rfl) ?_)
              refine seg 2 [.op [1, 1, 0, 1, 0, 1, 1, 1, 1, 1, 1, 1, 0, 1, 1, 1, 0] 5, .co [1, 1, 0, 1, 0, 1, 1, 1, 1, 1, 1, 1, 0, 1, 1, 1, 1], .le 0, .bl 0, .co [1, 1, 1]] [(1, .pointer (some (⟨g1, 0, none⟩))), (3, .string ⟨s_18.toArray⟩), (85, .bool (a.Call.Do == 8))] (by kernel_rfl) ?_
              rcases condT hp264 with ⟨hb317, hp264⟩ | ⟨hb317, hp264⟩
              · rw [hb317]
                refine seg 2 [.op [1, 1, 0, 1, 0, 1, 1, 1, 1, 1, 1, 1, 0, 1, 1, 1, 0] 7, .co [1, 1, 0, 1, 0, 1, 1, 1, 1, 1, 1, 1, 0, 1, 1, 1, 1], .le 0, .bl 0, .co [1, 1, 1]] [(3, .string ⟨s_18.toArray⟩), (85, .bool true), (87, .pointer (some (⟨g1, 11, none⟩)))] (by kernel_rfl) ?_
                refine st (ldR (some 88) 4 (⟨g1, 11, none⟩) (.bool a.Call.On) (by kernel_rfl) (by kernel_rfl) (H.cellB 0 rfl rfl) ?_)
                refine seg 2 [.co [1, 1, 0, 1, 0, 1, 1, 1, 1, 1, 1, 1, 0, 1, 1, 1, 1], .le 0, .bl 0, .co [1, 1, 1]] [(3, .string ⟨s_18.toArray⟩), (89, .bool a.Call.On)] (by kernel_rfl) ?_
                rcases condT hp264 with ⟨hb318, hp264⟩ | ⟨hb318, hp264⟩
                · rw [hb318]
                  refine seg 3 [.op [1, 1, 0, 1, 0, 1, 1, 1, 1, 1, 1, 1, 0, 1, 1, 1, 1, 0] 1, .le 0, .bl 0, .co [1, 1, 1]] [(90, .string ⟨s_18.toArray⟩)] (by kernel_rfl) ?_
                  obtain ⟨s_19, h_s_19, hp264⟩ := bindE hp264
                  refine st (catS (some 91) 9 s_18 ([32, 111, 110] : List UInt8) s_19 (by kernel_rfl) h_s_19 ?_)
                  have hl319 : s_19.length ≤ 9223372036854775807 := by obtain ⟨h1, h2⟩ := cat_some h_s_19; rw [h2, List.length_append]; exact h1
                  refine seg 2 [.le 0, .bl 0, .co [1, 1, 1]] [(3, .string ⟨s_19.toArray⟩)] (by kernel_rfl) ?_
                  refine leJ (s_19) ⟨(Option.some.inj hp264).symm, (St.takeN 0 H), hl319⟩ (by kernel_rfl)
                · rw [hb318]
                  refine seg 2 [.le 0, .bl 0, .co [1, 1, 1]] [(3, .string ⟨s_18.toArray⟩)] (by kernel_rfl) ?_
                  refine leJ (s_18) ⟨(Option.some.inj hp264).symm, (St.takeN 0 H), hl316⟩ (by kernel_rfl)
              · rw [hb317]
                refine seg 7 [.le 0, .bl 0, .co [1, 1, 1]] [(3, .string ⟨s_18.toArray⟩)] (by kernel_rfl) ?_
                refine leJ (s_18) ⟨(Option.some.inj hp264).symm, (St.takeN 0 H), hl316⟩ (by kernel_rfl)
            · rw [hb313]
              refine seg 6 [.op [1, 1, 0, 1, 0, 1, 1, 1, 1, 1, 1, 1, 0, 1, 1, 1, 0] 2, .co [1, 1, 0, 1, 0, 1, 1, 1, 1, 1, 1, 1, 0, 1, 1, 1, 1], .le 0, .bl 0, .co [1, 1, 1]] [(1, .pointer (some (⟨g1, 0, none⟩))), (3, .string ⟨s_13.toArray⟩), (82, .pointer (some (⟨g1, 6, none⟩)))] (by kernel_rfl) ?_
              refine st (ldR (some 83) 3 (⟨g1, 6, none⟩) (.int .i64 a.Call.Do) (by kernel_rfl) (by kernel_rfl) (H.cellB 0 rfl rfl) ?_)
              refine seg 2 [.op [1, 1, 0, 1, 0, 1, 1, 1, 1, 1, 1, 1, 0, 1, 1, 1, 0] 5, .co [1, 1, 0, 1, 0, 1, 1, 1, 1, 1, 1, 1, 0, 1, 1, 1, 1], .le 0, .bl 0, .co [1, 1, 1]] [(1, .pointer (some (⟨g1, 0, none⟩))), (3, .string ⟨s_13.toArray⟩), (85, .bool (a.Call.Do == 8))] (by kernel_rfl) ?_
              rcases condT hp264 with ⟨hb320, hp264⟩ | ⟨hb320, hp264⟩
              · rw [hb320]
                refine seg 2 [.op [1, 1, 0, 1, 0, 1, 1, 1, 1, 1, 1, 1, 0, 1, 1, 1, 0] 7, .co [1, 1, 0, 1, 0, 1, 1, 1, 1, 1, 1, 1, 0, 1, 1, 1, 1], .le 0, .bl 0, .co [1, 1, 1]] [(3, .string ⟨s_13.toArray⟩), (85, .bool true), (87, .pointer (some (⟨g1, 11, none⟩)))] (by kernel_rfl) ?_
                refine st (ldR (some 88) 4 (⟨g1, 11, none⟩) (.bool a.Call.On) (by kernel_rfl) (by kernel_rfl) (H.cellB 0 rfl rfl) ?_)
                refine seg 2 [.co [1, 1, 0, 1, 0, 1, 1, 1, 1, 1, 1, 1, 0, 1, 1, 1, 1], .le 0, .bl 0, .co [1, 1, 1]] [(3, .string ⟨s_13.toArray⟩), (89, .bool a.Call.On)] (by kernel_rfl) ?_
                rcases condT hp264 with ⟨hb321, hp264⟩ | ⟨hb321, hp264⟩
                · rw [hb321]
                  refine seg 3 [.op [1, 1, 0, 1, 0, 1, 1, 1, 1, 1, 1, 1, 0, 1, 1, 1, 1, 0] 1, .le 0, .bl 0, .co [1, 1, 1]] [(90, .string ⟨s_13.toArray⟩)] (by kernel_rfl) ?_
                  obtain ⟨s_20, h_s_20, hp264⟩ := bindE hp264
                  refine st (catS (some 91) 9 s_13 ([32, 111, 110] : List UInt8) s_20 (by kernel_rfl) h_s_20 ?_)
                  have hl322 : s_20.length ≤ 9223372036854775807 := by obtain ⟨h1, h2⟩ := cat_some h_s_20; rw [h2, List.length_append]; exact h1
                  refine seg 2 [.le 0, .bl 0, .co [1, 1, 1]] [(3, .string ⟨s_20.toArray⟩)] (by kernel_rfl) ?_
                  refine leJ (s_20) ⟨(Option.some.inj hp264).symm, (St.takeN 0 H), hl322⟩ (by kernel_rfl)
                · rw [hb321]
                  refine seg 2 [.le 0, .bl 0, .co [1, 1, 1]] [(3, .string ⟨s_13.toArray⟩)] (by kernel_rfl) ?_
                  refine leJ (s_13) ⟨(Option.some.inj hp264).symm, (St.takeN 0 H), hl297_0⟩ (by kernel_rfl)
              · rw [hb320]
                refine seg 7 [.le 0, .bl 0, .co [1, 1, 1]] [(3, .string ⟨s_13.toArray⟩)] (by kernel_rfl) ?_
                refine leJ (s_13) ⟨(Option.some.inj hp264).symm, (St.takeN 0 H), hl297_0⟩ (by kernel_rfl)
          · rw [hb284]
            refine seg 2 [.le 0, .bl 0, .co [1, 1, 1]] [(3, .string ⟨word_.toArray⟩)] (by kernel_rfl) ?_
            refine leJ (word_) ⟨(Option.some.inj hp264).symm, (St.takeN 0 H), hl2_0⟩ (by kernel_rfl)
    rintro s_5 wj264 ⟨hy264, H, hl265_0⟩
    rw [hy264] at hf
    refine seg 4 [.op [1, 1, 1, 0] 1, .co [1, 1, 1, 1]] [(92, .string ⟨s_5.toArray⟩)] (by kernel_rfl) ?_
    obtain ⟨s_21, h_s_21, hf⟩ := bindE hf
    refine st (catS (some 93) 9 s_5 ([10] : List UInt8) s_21 (by kernel_rfl) h_s_21 ?_)
    have hl323 : s_21.length ≤ 9223372036854775807 := by obtain ⟨h1, h2⟩ := cat_some h_s_21; rw [h2, List.length_append]; exact h1
    refine seg 2 [.co [1, 1, 1, 1]] [(2, .string ⟨s_21.toArray⟩)] (by kernel_rfl) ?_
    refine retR [2] [.string ⟨s_21.toArray⟩] (by kernel_rfl) (by kernel_rfl) (by kernel_rfl) ?_
    have hret := (Option.some.inj hf)
    subst hret
    exact ⟨_, rfl, rfl, H.scalar, hl323⟩
theorem ref31_Print_c {m : Mem} {w : World} (hm : Has m w) (l_ : (List TApiAct)) (A0_0 : Option Addr) (c0_0 : Nat) (s0_0 : SlI rApiAct m A0_0 c0_0 l_) {r : ((List UInt8) × Int)} (hf : ref31_Print l_ = some r) :
    Calls Tryd.prog 15 #[.slice A0_0 l_.length c0_0] w fun e w' => ∃ v, e = .returned v ∧ ∃ Az_0 : Option Addr, ∃ cz_0 : Nat, ∃ m' : Mem, v = .tuple #[.slice Az_0 r.1.length cz_0, .int .i64 r.2] ∧ St w noF m m' [rowI rU8 5 Az_0 cz_0 r.1] w' := by
  unfold ref31_Print at hf
  have H := St.start0 hm
  refine callsR Tryd.func15 (by kernel_rfl) (by kernel_rfl) ?_
  refine seg 12 [.co [1, 0, 1], .co [1, 1]] [(0, .slice A0_0 l_.length c0_0), (10, .bool (decide ((l_.length : Int) > 16384)))] (by kernel_rfl) ?_
  rcases condT hf with ⟨hb2, hf⟩ | ⟨hb2, hf⟩
  · rw [hb2]
    have p2 := of_decide_eq_true hb2
    refine seg 6 [.co [1, 0, 1, 0, 1], .co [1, 1]] [(2, .slice none 0 0), (3, .int .i64 3)] (by kernel_rfl) ?_
    have H := H.nilR rU8 5
    refine retR [2, 3] [.slice none 0 0, .int .i64 3] (by kernel_rfl) (by kernel_rfl) (by kernel_rfl) ?_
    obtain rfl : ([], 3) = r := (Option.some.inj hf)
    exact ⟨_, rfl, none, 0, m, rfl, H⟩
  · rw [hb2]
    have p2 := of_decide_eq_false hb2
    refine seg 7 [.co [1, 1, 0, 1], .co [1, 1, 1]] [(0, .slice A0_0 l_.length c0_0), (4, .int .i64 0)] (by kernel_rfl) ?_
    obtain ⟨y53, hp53, hfl53, hfr53⟩ := bndE hf
    refine joinR 0 (fun (x : Unit) => [(0, .slice A0_0 l_.length c0_0)]) (fun (x : Unit) (wj53 : World) => y53 = .inl () ∧ St w noF m m [] wj53) (by kernel_rfl) ?_ ?_
    · refine seg 1 [.co [1, 1, 0, 1, 0], .bl 0, .le 0, .co [1, 1, 1]] [(0, .slice A0_0 l_.length c0_0), (4, .int .i64 0)] (by kernel_rfl) ?_
      obtain ⟨nn68, hR68⟩ := loopO_iff.1 hp53
      refine loopR 1 (fun (x : Nat × Nat) => [(0, .slice A0_0 l_.length c0_0), (4, .int .i64 (x.2 : Int))]) (fun (x : Nat × Nat) (wl68 : World) => iter (fun s => ref31_Print_l1 l_ s) x.1 x.2 = some y53 ∧ St w noF m m [] wl68) (fun (x : Nat × Nat) => x.1) (nn68, 0) (by kernel_rfl) (by kernel_rfl) (by kernel_rfl) ?_ ?_
      · exact ⟨hR68, H⟩
      rintro ⟨n68, i⟩ wl68 ⟨hR68, H⟩
      try dsimp only at hR68
      try dsimp only at H
      obtain ⟨nk68, q68, rfl, hb_68, hnx68, hfin68⟩ := iterE hR68
      replace hb_68 : ref31_Print_l1 l_ i = some q68 := hb_68
      unfold ref31_Print_l1 at hb_68
      refine seg 8 [.co [1, 1, 0, 1, 0, 0, 0, 1], .co [1, 1, 0, 1, 0, 0, 1], .le 1, .bl 0, .le 0, .co [1, 1, 1]] [(0, .slice A0_0 l_.length c0_0), (4, .int .i64 (i : Int)), (14, .bool (decide ((i : Int) < (l_.length : Int))))] (by kernel_rfl) ?_
      rcases condT hb_68 with ⟨hb70, hb_68⟩ | ⟨hb70, hb_68⟩
      · rw [hb70]
        have p70 := of_decide_eq_true hb70
        refine seg 8 [.op [1, 1, 0, 1, 0, 0, 1, 0, 0, 0] 2, .co [1, 1, 0, 1, 0, 0, 1, 0, 0, 1], .bl 1, .co [1, 1, 0, 1, 0, 0, 1, 1], .le 1, .bl 0, .le 0, .co [1, 1, 1]] [(0, .slice A0_0 l_.length c0_0), (4, .int .i64 (i : Int)), (17, .slice A0_0 l_.length c0_0), (18, .int .i64 (i : Int))] (by kernel_rfl) ?_
        obtain ⟨x_, h_x_, hb_68⟩ := bindE hb_68
        obtain ⟨ad72, _, ea72, ⟨A72_3, c72_3, A72_5, c72_5, rfl, hs72_3, hs72_5, hl72_10⟩, hc72⟩ := s0_0.at_ h_x_ (by decide)
        refine st (idxS (some 19) 31 29 12 A0_0 ad72 l_.length c0_0 .i64 (i : Int) ea72 (by kernel_rfl) (by kernel_rfl) (by omega) (by have := (List.getElem?_eq_some_iff.1 h_x_).1; omega) ?_)
        refine st (ldAggR (some 20) 29 (ad72.add (i * 12)) [.int .i64 x_.Do, .int .i64 x_.Len, .int .u64 (x_.Sum.toNat : Int), .slice A72_3 x_.Bytes.length c72_3, .int .i64 x_.Crash.After, .slice A72_5 x_.Crash.Torn.length c72_5, .int .i64 x_.Call.Do, .int .i64 x_.Call.Ino, .int .i64 x_.Call.A, .int .i64 x_.Call.B, .string ⟨x_.Call.Name.toArray⟩, .bool x_.Call.On] (by kernel_rfl) (by kernel_rfl) (fun j v hj => H.cellI (hc72 j v hj)) ?_)
        obtain ⟨check, h_check, hb_68⟩ := bindE hb_68
        refine st (callR (some 21) 11 #[.agg #[.int .i64 x_.Do, .int .i64 x_.Len, .int .u64 (x_.Sum.toNat : Int), .slice A72_3 x_.Bytes.length c72_3, .int .i64 x_.Crash.After, .slice A72_5 x_.Crash.Torn.length c72_5, .int .i64 x_.Call.Do, .int .i64 x_.Call.Ino, .int .i64 x_.Call.A, .int .i64 x_.Call.B, .string ⟨x_.Call.Name.toArray⟩, .bool x_.Call.On]] Tryd.call11 (ref31_Check_c H.has x_ A72_3 c72_3 hs72_3 A72_5 c72_5 hs72_5 hl72_10 h_check) (by kernel_rfl) ?_)
        rintro _ w73 ⟨rfl, hx73⟩
        replace H := H.ex hx73
        refine seg 7 [.co [1, 1, 0, 1, 0, 0, 1, 0, 0, 1, 1], .bl 1, .co [1, 1, 0, 1, 0, 0, 1, 1], .le 1, .bl 0, .le 0, .co [1, 1, 1]] [(0, .slice A0_0 l_.length c0_0), (4, .int .i64 (i : Int)), (5, .int .i64 check), (23, .bool (check != 0))] (by kernel_rfl) ?_
        rcases condT hb_68 with ⟨hb74, hb_68⟩ | ⟨hb74, hb_68⟩
        · rw [hb74]
          refine seg 7 [.co [1, 1, 0, 1, 0, 0, 1, 0, 0, 1, 1, 0, 1], .bl 1, .co [1, 1, 0, 1, 0, 0, 1, 1], .le 1, .bl 0, .le 0, .co [1, 1, 1]] [(2, .slice none 0 0), (3, .int .i64 check)] (by kernel_rfl) ?_
          have H := H.nilR rU8 5
          refine retR [2, 3] [.slice none 0 0, .int .i64 check] (by kernel_rfl) (by kernel_rfl) (by kernel_rfl) ?_
          obtain rfl : ([], check) = r := (hfr53 _ (hfin68 _ (Option.some.inj hb_68).symm).symm)
          exact ⟨_, rfl, none, 0, m, rfl, H⟩
        · rw [hb74]
          refine seg 8 [.le 1, .bl 0, .le 0, .co [1, 1, 1]] [(0, .slice A0_0 l_.length c0_0), (4, .int .i64 (IntKind.i64.wrap ((i : Int) + 1)))] (by kernel_rfl) ?_
          have := s0_0.bound
          rw [show IntKind.i64.wrap ((i : Int) + 1) = ((i : Int) + 1) from w64 (by omega)]
          refine leR (nk68, (i + 1)) (Nat.lt_succ_self _) ⟨hnx68 _ (Option.some.inj hb_68).symm, H⟩ (by kernel_rfl)
      · rw [hb70]
        have p70 := of_decide_eq_false hb70
        refine seg 2 [.le 0, .co [1, 1, 1]] [(0, .slice A0_0 l_.length c0_0)] (by kernel_rfl) ?_
        refine leR_up (k' := []) (by rfl) ?_
        refine leJ () ⟨(hfin68 _ (Option.some.inj hb_68).symm).symm, H⟩ (by kernel_rfl)
    rintro _ wj53 ⟨hy53, H⟩
    have hf := hfl53 _ hy53
    try dsimp only at hf
    refine seg 9 [.co [1, 1, 1, 1, 0, 1], .co [1, 1, 1, 1, 1]] [(0, .slice A0_0 l_.length c0_0), (6, .slice none 0 0), (7, .int .i64 0)] (by kernel_rfl) ?_
    obtain ⟨y130, hp130, hfl130, hfr130⟩ := bndE hf
    refine joinR 0 (fun (x : (List UInt8) × Option Addr × Nat) => [(6, .slice (x.2.1) x.1.length (x.2.2))]) (fun (x : (List UInt8) × Option Addr × Nat) (wj130 : World) => y130 = .inl x.1 ∧ St w noF m m [rowI rU8 5 (x.2.1) (x.2.2) x.1] wj130) (by kernel_rfl) ?_ ?_
    · refine seg 1 [.co [1, 1, 1, 1, 0, 1, 0], .bl 2, .le 0, .co [1, 1, 1, 1, 1]] [(0, .slice A0_0 l_.length c0_0), (6, .slice none 0 0), (7, .int .i64 0)] (by kernel_rfl) ?_
      have H := H.nilR rU8 5
      obtain ⟨nn146, hR146⟩ := loopO_iff.1 hp130
      refine loopR 1 (fun (x : Nat × (List UInt8) × Nat × Option Addr × Nat) => [(0, .slice A0_0 l_.length c0_0), (6, .slice (x.2.2.2.1) x.2.1.length (x.2.2.2.2)), (7, .int .i64 (x.2.2.1 : Int))]) (fun (x : Nat × (List UInt8) × Nat × Option Addr × Nat) (wl146 : World) => iter (fun s => ref31_Print_l2 l_ s.1 s.2) x.1 (x.2.1, x.2.2.1) = some y130 ∧ St w noF m m [rowI rU8 5 (x.2.2.2.1) (x.2.2.2.2) x.2.1] wl146) (fun (x : Nat × (List UInt8) × Nat × Option Addr × Nat) => x.1) (nn146, [], 0, none, 0) (by kernel_rfl) (by kernel_rfl) (by kernel_rfl) ?_ ?_
      · exact ⟨hR146, H⟩
      rintro ⟨n146, b, i1, A_1_147, c_2_147⟩ wl146 ⟨hR146, H⟩
      try dsimp only at hR146
      try dsimp only at H
      obtain ⟨nk146, q146, rfl, hb_146, hnx146, hfin146⟩ := iterE hR146
      replace hb_146 : ref31_Print_l2 l_ b i1 = some q146 := hb_146
      unfold ref31_Print_l2 at hb_146
      refine seg 8 [.co [1, 1, 1, 1, 0, 1, 0, 0, 0, 1], .co [1, 1, 1, 1, 0, 1, 0, 0, 1], .le 1, .bl 2, .le 0, .co [1, 1, 1, 1, 1]] [(0, .slice A0_0 l_.length c0_0), (6, .slice A_1_147 b.length c_2_147), (7, .int .i64 (i1 : Int)), (28, .bool (decide ((i1 : Int) < (l_.length : Int))))] (by kernel_rfl) ?_
      rcases condT hb_146 with ⟨hb148, hb_146⟩ | ⟨hb148, hb_146⟩
      · rw [hb148]
        have p148 := of_decide_eq_true hb148
        refine seg 9 [.op [1, 1, 1, 1, 0, 1, 0, 0, 1, 0, 0, 0] 3, .co [1, 1, 1, 1, 0, 1, 0, 0, 1, 0, 0, 1], .bl 3, .co [1, 1, 1, 1, 0, 1, 0, 0, 1, 1], .le 1, .bl 2, .le 0, .co [1, 1, 1, 1, 1]] [(0, .slice A0_0 l_.length c0_0), (7, .int .i64 (i1 : Int)), (31, .slice A_1_147 b.length c_2_147), (32, .slice A0_0 l_.length c0_0), (33, .int .i64 (i1 : Int))] (by kernel_rfl) ?_
        obtain ⟨x_1, h_x_1, hb_146⟩ := bindE hb_146
        obtain ⟨ad150, _, ea150, ⟨A150_3, c150_3, A150_5, c150_5, rfl, hs150_3, hs150_5, hl150_10⟩, hc150⟩ := s0_0.at_ h_x_1 (by decide)
        refine st (idxS (some 34) 31 29 12 A0_0 ad150 l_.length c0_0 .i64 (i1 : Int) ea150 (by kernel_rfl) (by kernel_rfl) (by omega) (by have := (List.getElem?_eq_some_iff.1 h_x_1).1; omega) ?_)
        refine st (ldAggR (some 35) 29 (ad150.add (i1 * 12)) [.int .i64 x_1.Do, .int .i64 x_1.Len, .int .u64 (x_1.Sum.toNat : Int), .slice A150_3 x_1.Bytes.length c150_3, .int .i64 x_1.Crash.After, .slice A150_5 x_1.Crash.Torn.length c150_5, .int .i64 x_1.Call.Do, .int .i64 x_1.Call.Ino, .int .i64 x_1.Call.A, .int .i64 x_1.Call.B, .string ⟨x_1.Call.Name.toArray⟩, .bool x_1.Call.On] (by kernel_rfl) (by kernel_rfl) (fun j v hj => H.cellI (hc150 j v hj)) ?_)
        obtain ⟨line, h_line, hb_146⟩ := bindE hb_146
        refine st (callR (some 36) 26 #[.agg #[.int .i64 x_1.Do, .int .i64 x_1.Len, .int .u64 (x_1.Sum.toNat : Int), .slice A150_3 x_1.Bytes.length c150_3, .int .i64 x_1.Crash.After, .slice A150_5 x_1.Crash.Torn.length c150_5, .int .i64 x_1.Call.Do, .int .i64 x_1.Call.Ino, .int .i64 x_1.Call.A, .int .i64 x_1.Call.B, .string ⟨x_1.Call.Name.toArray⟩, .bool x_1.Call.On]] Tryd.call26 (ref31_Line_c H.has x_1 A150_3 c150_3 hs150_3 A150_5 c150_5 hs150_5 hl150_10 h_line) (by kernel_rfl) ?_)
        rintro _ w151 ⟨rfl, hx151, hl151_0⟩
        replace H := H.ex hx151
        replace H : St w noF m m [rowI rU8 5 A_1_147 c_2_147 b] w151 := H
        obtain ⟨b1, h_b1, hb_146⟩ := bindE hb_146
        refine st (appstrS (some 37) 23 9 5 23 0 A_1_147 c_2_147 b line b1 H rfl ⟨Tryd.underlying23, by kernel_rfl⟩ Tryd.underlying9 (by kernel_rfl) h_b1 ?_)
        intro A152 c152 w152 H
        refine seg 8 [.co [1, 1, 1, 1, 0, 1, 0, 0, 1, 0, 0, 1, 1], .bl 3, .co [1, 1, 1, 1, 0, 1, 0, 0, 1, 1], .le 1, .bl 2, .le 0, .co [1, 1, 1, 1, 1]] [(0, .slice A0_0 l_.length c0_0), (6, .slice A152 b1.length c152), (7, .int .i64 (i1 : Int)), (40, .bool (decide ((b1.length : Int) > 1048576)))] (by kernel_rfl) ?_
        rcases condT hb_146 with ⟨hb153, hb_146⟩ | ⟨hb153, hb_146⟩
        · rw [hb153]
          have p153 := of_decide_eq_true hb153
          refine seg 6 [.co [1, 1, 1, 1, 0, 1, 0, 0, 1, 0, 0, 1, 1, 0, 1], .bl 3, .co [1, 1, 1, 1, 0, 1, 0, 0, 1, 1], .le 1, .bl 2, .le 0, .co [1, 1, 1, 1, 1]] [(2, .slice none 0 0), (3, .int .i64 2)] (by kernel_rfl) ?_
          have H := H.nilR rU8 5
          refine retR [2, 3] [.slice none 0 0, .int .i64 2] (by kernel_rfl) (by kernel_rfl) (by kernel_rfl) ?_
          obtain rfl : ([], 2) = r := (hfr130 _ (hfin146 _ (Option.some.inj hb_146).symm).symm)
          exact ⟨_, rfl, none, 0, m, rfl, (St.takeN 1 H)⟩
        · rw [hb153]
          have p153 := of_decide_eq_false hb153
          refine seg 8 [.le 1, .bl 2, .le 0, .co [1, 1, 1, 1, 1]] [(0, .slice A0_0 l_.length c0_0), (6, .slice A152 b1.length c152), (7, .int .i64 (IntKind.i64.wrap ((i1 : Int) + 1)))] (by kernel_rfl) ?_
          have := s0_0.bound
          rw [show IntKind.i64.wrap ((i1 : Int) + 1) = ((i1 : Int) + 1) from w64 (by omega)]
          refine leR (nk146, b1, (i1 + 1), A152, c152) (Nat.lt_succ_self _) ⟨hnx146 _ (Option.some.inj hb_146).symm, H⟩ (by kernel_rfl)
      · rw [hb148]
        have p148 := of_decide_eq_false hb148
        refine seg 2 [.le 0, .co [1, 1, 1, 1, 1]] [(6, .slice A_1_147 b.length c_2_147)] (by kernel_rfl) ?_
        refine leR_up (k' := []) (by rfl) ?_
        refine leJ (b, A_1_147, c_2_147) ⟨(hfin146 _ (Option.some.inj hb_146).symm).symm, H⟩ (by kernel_rfl)
    rintro ⟨b, A_1_131, c_2_131⟩ wj130 ⟨hy130, H⟩
    try dsimp only at hy130
    try dsimp only at H
    have hf := hfl130 _ hy130
    refine seg 6 [.co [1, 1, 1, 1, 1, 1]] [(2, .slice A_1_131 b.length c_2_131), (3, .int .i64 0)] (by kernel_rfl) ?_
    refine retR [2, 3] [.slice A_1_131 b.length c_2_131, .int .i64 0] (by kernel_rfl) (by kernel_rfl) (by kernel_rfl) ?_
    obtain rfl : (b, 0) = r := (Option.some.inj hf)
    exact ⟨_, rfl, A_1_131, c_2_131, m, rfl, H⟩
theorem law31_ScriptPrints_c {m : Mem} {w : World} (hm : Has m w) (hG1 : TabM m 1 (tab0.map fU64)) (hG3 : TabM m 3 (tab2.map fU8)) (l_ : (List TApiAct)) (A0_0 : Option Addr) (c0_0 : Nat) (s0_0 : SlI rApiAct m A0_0 c0_0 l_) {r : Bool} (hf : law31_ScriptPrints l_ = some r) :
    Calls Tryd.prog 4 #[.slice A0_0 l_.length c0_0] w fun e w' => ∃ v, e = .returned v ∧ v = .bool r ∧ Ex w w' := by
  unfold law31_ScriptPrints at hf
  have H := St.start0 hm
  refine callsR Tryd.func4 (by kernel_rfl) (by kernel_rfl) ?_
  refine seg 8 [.op [1, 0, 0] 1, .co [1, 0, 1], .co [1, 1]] [(0, .slice A0_0 l_.length c0_0), (7, .slice A0_0 l_.length c0_0)] (by kernel_rfl) ?_
  obtain ⟨much, h_much, hf⟩ := bindE hf
  refine st (callR (some 8) 6 #[.slice A0_0 l_.length c0_0] Tryd.call6 (ref31_Much_c H.has l_ A0_0 c0_0 s0_0 h_much) (by kernel_rfl) ?_)
  rintro _ w1 ⟨rfl, hx1⟩
  replace H := H.ex hx1
  refine seg 1 [.co [1, 0, 1], .co [1, 1]] [(0, .slice A0_0 l_.length c0_0), (8, .bool much)] (by kernel_rfl) ?_
  rcases condT hf with ⟨hb4, hf⟩ | ⟨hb4, hf⟩
  · rw [hb4]
    refine seg 3 [.op [1, 0, 1, 0, 0] 0, .co [1, 0, 1, 0, 1], .co [1, 1]] [] (by kernel_rfl) ?_
    obtain ⟨live, h_live, hf⟩ := bindE hf
    refine st (callR (some 9) 7 #[] Tryd.call7 (law31_live_c H.has hG1 hG3 h_live) (by kernel_rfl) ?_)
    rintro _ w5 ⟨rfl, hx5⟩
    replace H := H.ex hx5
    refine seg 2 [.co [1, 0, 1, 0, 1], .co [1, 1]] [(2, .bool live)] (by kernel_rfl) ?_
    refine retR [2] [.bool live] (by kernel_rfl) (by kernel_rfl) (by kernel_rfl) ?_
    have hret := (Option.some.inj hf)
    subst hret
    exact ⟨_, rfl, rfl, H.scalar⟩
  · rw [hb4]
    refine seg 5 [.op [1, 1, 0] 1, .co [1, 1, 1]] [(0, .slice A0_0 l_.length c0_0), (11, .slice A0_0 l_.length c0_0)] (by kernel_rfl) ?_
    obtain ⟨print, h_print, hf⟩ := bindE hf
    refine st (callR (some 12) 14 #[.slice A0_0 l_.length c0_0] Tryd.call14 (script_Print_c H.has hG1 hG3 l_ A0_0 c0_0 s0_0 h_print) (by kernel_rfl) ?_)
    rintro _ w6 ⟨A6_0, c6_0, mk6, rfl, hS6⟩
    have hsub6 := hS6.sub
    replace H := H.call0 hS6
    refine seg 9 [.op [1, 1, 1, 0] 1, .co [1, 1, 1, 1]] [(3, .slice A6_0 print.1.length c6_0), (4, .int .i64 print.2), (16, .slice A0_0 l_.length c0_0)] (by kernel_rfl) ?_
    replace H : St w noF m mk6 [rowI rU8 5 A6_0 c6_0 print.1] w6 := H
    obtain ⟨print1, h_print1, hf⟩ := bindE hf
    refine st (callR (some 17) 15 #[.slice A0_0 l_.length c0_0] Tryd.call15 (ref31_Print_c H.has l_ A0_0 c0_0 (s0_0.mono hsub6) h_print1) (by kernel_rfl) ?_)
    rintro _ w7 ⟨A7_0, c7_0, mk7, rfl, hS7⟩
    have hsub7 := hS7.sub
    replace H := H.call0 hS7
    refine seg 9 [.op [1, 1, 1, 1, 0] 1, .co [1, 1, 1, 1, 1]] [(4, .int .i64 print.2), (5, .slice A7_0 print1.1.length c7_0), (6, .int .i64 print1.2), (20, .slice A6_0 print.1.length c6_0)] (by kernel_rfl) ?_
    refine st (b2sS (some 21) 23 9 5 A6_0 c6_0 print.1 Tryd.underlying23 Tryd.underlying5 Tryd.underlying9 (by kernel_rfl) (H.rowCs 1 rfl) ?_)
    have hl15 : print.1.length ≤ 9223372036854775807 := (Nat.le_trans (H.rowCap 1 rfl).1 (H.rowCap 1 rfl).2)
    refine seg 1 [.op [1, 1, 1, 1, 0] 3, .co [1, 1, 1, 1, 1]] [(4, .int .i64 print.2), (6, .int .i64 print1.2), (21, .string ⟨print.1.toArray⟩), (22, .slice A7_0 print1.1.length c7_0)] (by kernel_rfl) ?_
    refine st (b2sS (some 23) 23 9 5 A7_0 c7_0 print1.1 Tryd.underlying23 Tryd.underlying5 Tryd.underlying9 (by kernel_rfl) (H.rowCs 0 rfl) ?_)
    have hl17 : print1.1.length ≤ 9223372036854775807 := (Nat.le_trans (H.rowCap 0 rfl).1 (H.rowCap 0 rfl).2)
    refine seg 2 [.op [1, 1, 1, 1, 0] 6, .co [1, 1, 1, 1, 1]] [(4, .int .i64 print.2), (6, .int .i64 print1.2), (25, .bool ((ByteArray.toList ⟨print.1.toArray⟩) == (ByteArray.toList ⟨print1.1.toArray⟩)))] (by kernel_rfl) ?_
    rw [seq_raw print.1 print1.1]
    rcases condT hf with ⟨hb18, hf⟩ | ⟨hb18, hf⟩
    · rw [hb18]
      refine seg 1 [.op [1, 1, 1, 1, 0] 7, .co [1, 1, 1, 1, 1]] [(6, .int .i64 print1.2), (25, .bool true), (26, .int .i64 print.2)] (by kernel_rfl) ?_
      refine st (callR (some 27) 9 #[.int .i64 print.2] Tryd.call9 (law31_num_c H.has print.2) (by kernel_rfl) ?_)
      rintro _ w19 ⟨rfl, hx19⟩
      replace H := H.ex hx19
      refine seg 4 [.op [1, 1, 1, 1, 0] 12, .co [1, 1, 1, 1, 1]] [(31, .bool ((law31_num print.2) == print1.2))] (by kernel_rfl) ?_
      rcases condT hf with ⟨hb20, hf⟩ | ⟨hb20, hf⟩
      · rw [hb20]
        replace H : St w noF m mk7 [] w19 := ((H.drop 1 rfl).drop 0 rfl)
        obtain ⟨live1, h_live1, hf⟩ := bindE hf
        refine st (callR (some 32) 7 #[] Tryd.call7 (law31_live_c H.has (hG1.mono (hsub6.trans hsub7)) (hG3.mono (hsub6.trans hsub7)) h_live1) (by kernel_rfl) ?_)
        rintro _ w21 ⟨rfl, hx21⟩
        replace H := H.ex hx21
        refine seg 3 [.co [1, 1, 1, 1, 1]] [(2, .bool live1)] (by kernel_rfl) ?_
        refine retR [2] [.bool live1] (by kernel_rfl) (by kernel_rfl) (by kernel_rfl) ?_
        have hret := (Option.some.inj hf)
        subst hret
        exact ⟨_, rfl, rfl, H.scalar⟩
      · rw [hb20]
        refine seg 4 [.co [1, 1, 1, 1, 1]] [(2, .bool false)] (by kernel_rfl) ?_
        refine retR [2] [.bool false] (by kernel_rfl) (by kernel_rfl) (by kernel_rfl) ?_
        have hret := (Option.some.inj hf)
        subst hret
        exact ⟨_, rfl, rfl, H.scalar⟩
    · rw [hb18]
      refine seg 10 [.co [1, 1, 1, 1, 1]] [(2, .bool false)] (by kernel_rfl) ?_
      refine retR [2] [.bool false] (by kernel_rfl) (by kernel_rfl) (by kernel_rfl) ?_
      have hret := (Option.some.inj hf)
      subst hret
      exact ⟨_, rfl, rfl, H.scalar⟩
end Go.Proofs.YtgoedcjjckdlpaaDoor.F
