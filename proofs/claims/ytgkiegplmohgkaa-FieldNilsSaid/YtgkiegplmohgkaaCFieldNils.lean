/- FieldNils: the walk. -/
import Derived.Test.YtgkiegplmohgkaaF2
import Derived.Test.YtgkiegplmohgkaaF3
import Derived.Test.YtgkiegplmohgkaaT
set_option linter.unusedVariables false
set_option linter.unusedSimpArgs false
namespace Go.Proofs.Ytgkiegplmohgkaa.F
open Go Go.RowKit Go.Proofs.Ytgkiegplmohgkaa.K
theorem fieldNils_c (w : World) (x : TAct) (hx0 : Dat.ok 0 w.heap.size w x) :
    Calls Try.prog 14 #[.agg #[.int .i64 x.Do, .int .i64 x.N, .int .u64 (x.V : Int), .slice x.B.A x.B.l.length x.B.c]] w fun e w' => ∃ v, e = .returned v ∧ (v = .bool true ∧ Ex w w') := by
  refine callsR Try.func14 (by kernel_rfl) (by kernel_rfl) ?_
  have hmx : maxLen = 9223372036854775807 := rfl
  have hF : Ex w w := Kp.refl _ _
  have hx : TAct.Ok _ _ _ x := hx0
  have q2 : -9223372036854775808 ≤ x.Do ∧ x.Do ≤ 9223372036854775807 := hx.Do
  have q3 : -9223372036854775808 ≤ x.N ∧ x.N ≤ 9223372036854775807 := hx.N
  have q4 : x.V < 18446744073709551616 := hx.V
  have q5 : x.B.l.length ≤ x.B.c := Sls.Ok.le hx.B
  have q5m : x.B.c ≤ maxLen := Sls.Ok.max hx.B
  refine seg 2 [.op [0] 0, .co [1]] [(0, .agg #[.int .i64 x.Do, .int .i64 x.N, .int .u64 (x.V : Int), .slice x.B.A x.B.l.length x.B.c])] (by kernel_rfl) ?_
  refine st (newR (some 1) (fun g => .pointer (some ⟨g, 0, none⟩)) (.cells #[.int .i64 x.Do, .int .i64 x.N, .int .u64 (x.V : Int), .slice x.B.A x.B.l.length x.B.c] 56) (by kernel_rfl) ?_)
  intro g6 w6 hgs6 hx6 hg6 hz6
  replace hF := hF.ex hx6
  refine seg 14 [.op [1, 1, 1, 0] 2, .co [1, 1, 1, 1]] [(1, .pointer (some (⟨g6, 0, none⟩))), (3, .pointer none), (4, .pointer none), (9, .pointer none), (10, .pointer (some (⟨g6, 2, none⟩)))] (by kernel_rfl) ?_
  refine st (ldR (some 11) 24 (⟨g6, 2, none⟩) (.int .u64 (x.V : Int)) (by kernel_rfl) (by kernel_rfl) (blk_cell hg6 rfl) ?_)
  refine seg 1 [.op [1, 1, 1, 0] 4, .co [1, 1, 1, 1]] [(1, .pointer (some (⟨g6, 0, none⟩))), (3, .pointer none), (4, .pointer none), (9, .pointer none), (11, .int .u64 (x.V : Int)), (12, .pointer (some (⟨g6, 1, none⟩)))] (by kernel_rfl) ?_
  refine st (ldR (some 13) 3 (⟨g6, 1, none⟩) (.int .i64 x.N) (by kernel_rfl) (by kernel_rfl) (blk_cell hg6 rfl) ?_)
  refine st (callR (some 14) 32 #[.pointer none, .int .u64 (x.V : Int), .int .i64 x.N] Try.call32 (wnum_nil w6 x.V (by omega) x.N) (by kernel_rfl) ?_)
  rintro _ w7 ⟨rfl, hx7⟩
  have hz7 := hx7.size
  replace hg6 := hx7.blk hg6 (fun e => e)
  replace hF := hF.ex hx7
  refine seg 5 [.op [1, 1, 1, 1, 0] 2, .co [1, 1, 1, 1, 1]] [(1, .pointer (some (⟨g6, 0, none⟩))), (3, .pointer none), (4, .pointer none), (15, .pointer none), (16, .pointer (some (⟨g6, 3, none⟩)))] (by kernel_rfl) ?_
  refine st (ldR (some 17) 22 (⟨g6, 3, none⟩) (.slice x.B.A x.B.l.length x.B.c) (by kernel_rfl) (by kernel_rfl) (blk_cell hg6 rfl) ?_)
  refine st (callR (some 18) 33 #[.pointer none, .slice x.B.A x.B.l.length x.B.c] Try.call33 (wbytes_nil w7 x.B.A x.B.l.length x.B.c) (by kernel_rfl) ?_)
  rintro _ w8 ⟨rfl, hx8⟩
  have hz8 := hx8.size
  replace hg6 := hx8.blk hg6 (fun e => e)
  replace hF := hF.ex hx8
  refine seg 5 [.op [1, 1, 1, 1, 1, 0] 2, .co [1, 1, 1, 1, 1, 1]] [(1, .pointer (some (⟨g6, 0, none⟩))), (3, .pointer none), (4, .pointer none), (19, .pointer none), (20, .pointer (some (⟨g6, 3, none⟩)))] (by kernel_rfl) ?_
  refine st (ldR (some 21) 22 (⟨g6, 3, none⟩) (.slice x.B.A x.B.l.length x.B.c) (by kernel_rfl) (by kernel_rfl) (blk_cell hg6 rfl) ?_)
  refine st (callR (some 22) 34 #[.pointer none, .slice x.B.A x.B.l.length x.B.c] Try.call34 (wtext_nil w8 x.B.A x.B.l.length x.B.c (by omega)) (by kernel_rfl) ?_)
  rintro _ w9 ⟨rfl, hx9⟩
  have hz9 := hx9.size
  replace hg6 := hx9.blk hg6 (fun e => e)
  replace hF := hF.ex hx9
  refine seg 4 [.op [1, 1, 1, 1, 1, 1, 0] 1, .co [1, 1, 1, 1, 1, 1, 1]] [(1, .pointer (some (⟨g6, 0, none⟩))), (3, .pointer none), (4, .pointer none), (24, .pointer none)] (by kernel_rfl) ?_
  refine st (callR (some 25) 42 #[.pointer none] Try.call42 (rerr_nil w9 ) (by kernel_rfl) ?_)
  rintro _ w10 ⟨rfl, hx10⟩
  have hz10 := hx10.size
  replace hg6 := hx10.blk hg6 (fun e => e)
  replace hF := hF.ex hx10
  refine seg 9 [.op [1, 1, 1, 1, 1, 1, 1, 0] 1, .co [1, 1, 1, 1, 1, 1, 1, 1]] [(1, .pointer (some (⟨g6, 0, none⟩))), (3, .pointer none), (4, .pointer none), (5, .int .i64 0), (6, .int .i64 5), (29, .pointer none)] (by kernel_rfl) ?_
  refine st (callR (some 30) 35 #[.pointer none] Try.call35 (wdone_nil w10 ) (by kernel_rfl) ?_)
  rintro _ w11 ⟨rfl, hx11⟩
  have hz11 := hx11.size
  replace hg6 := hx11.blk hg6 (fun e => e)
  replace hF := hF.ex hx11
  refine seg 7 [.co [1, 1, 1, 1, 1, 1, 1, 1, 0], .co [1, 1, 1, 1, 1, 1, 1, 1, 1]] [(1, .pointer (some (⟨g6, 0, none⟩))), (3, .pointer none), (4, .pointer none), (5, .int .i64 0), (6, .int .i64 5), (7, .slice none 0 0), (8, .int .i64 5)] (by kernel_rfl) ?_
  refine drawT (fun _ => False) (by kernel_rfl) (by kernel_rfl) ?_
  intro w12 hx12 hz12
  have hg6_12 := hg6
  replace hg6_12 := hx12.blk hg6_12 (fun e => e)
  replace hF := hF.ex hx12
  have hS12 := Kp.refl (fun _ => False) w12
  refine segD [0, 1] [0, 1] [(1, .pointer (some (⟨g6, 0, none⟩))), (3, .pointer none), (4, .pointer none), (5, .int .i64 0), (6, .int .i64 5), (7, .slice none 0 0), (8, .int .i64 5), (33, .pointer none), (34, .pointer (some (⟨g6, 1, none⟩)))] (by kernel_rfl) ?_
  refine stD (i := 2) (by kernel_rfl) hS12 (ldR (some 35) 3 (⟨g6, 1, none⟩) (.int .i64 x.N) (by kernel_rfl) (by kernel_rfl) (blk_cell hg6_12 rfl) ?_)
  refine stD (i := 3) (by kernel_rfl) hS12 (callR (some 36) 39 #[.pointer none, .int .i64 x.N] Try.call39 (rnum_nil w12 x.N) (by kernel_rfl) ?_)
  rintro _ w13 ⟨rfl, hx13⟩
  have hz13 := hx13.size
  have hg6_13 := hg6_12
  have hS12_13 := hS12
  replace hg6_13 := hx13.blk hg6_13 (fun e => e)
  replace hS12_13 := hS12_13.ex hx13
  replace hF := hF.ex hx13
  refine segD [4, 5, 6, 7, 11, 12, 17, 20, 23, 24, 26] [0, 1, 2, 3, 4, 5, 6, 7, 11, 12, 17, 20, 23, 24, 26] [(6, .int .i64 5), (8, .int .i64 5), (38, .bool true), (39, .pointer none), (40, .pointer (some (⟨g6, 1, none⟩))), (44, .pointer none), (45, .pointer (some (⟨g6, 1, none⟩))), (50, .pointer none), (53, .pointer none), (57, .int .i64 0), (59, .int .i64 0)] (by kernel_rfl) ?_
  refine takeD (i := 8) (d := (some 41)) (s := vS (Instr.loadAt 3 (.pointer (some (⟨g6, 1, none⟩))))) (v := .int .i64 x.N) (by kernel_rfl) (by kernel_rfl) (fun w' hw' => ld_run _ _ _ (by kernel_rfl) (hw'.cell (blk_cell hg6_12 rfl) (fun e => e))) ?_
  refine takeD (i := 13) (d := (some 46)) (s := vS (Instr.loadAt 3 (.pointer (some (⟨g6, 1, none⟩))))) (v := .int .i64 x.N) (by kernel_rfl) (by kernel_rfl) (fun w' hw' => ld_run _ _ _ (by kernel_rfl) (hw'.cell (blk_cell hg6_12 rfl) (fun e => e))) ?_
  refine stD (i := 9) (by kernel_rfl) hS12_13 (callR (some 42) 41 #[.pointer none, .int .i64 x.N] Try.call41 (rbytes_nil w13 x.N) (by kernel_rfl) ?_)
  rintro _ w14 ⟨A14, c14, rfl, hx14⟩
  have hz14 := hx14.size
  have hS12_14 := hS12_13
  replace hS12_14 := hS12_14.ex hx14
  replace hF := hF.ex hx14
  refine segD [10] [0, 1, 2, 3, 4, 5, 6, 7, 11, 12, 17, 20, 23, 24, 26, 8, 13, 9, 10] [(6, .int .i64 5), (8, .int .i64 5), (38, .bool true), (43, .int .i64 0), (44, .pointer none), (46, .int .i64 x.N), (50, .pointer none), (53, .pointer none), (57, .int .i64 0), (59, .int .i64 0)] (by kernel_rfl) ?_
  refine stD (i := 14) (by kernel_rfl) hS12_14 (callR (some 47) 40 #[.pointer none, .int .i64 x.N] Try.call40 (rtext_nil w14 x.N) (by kernel_rfl) ?_)
  rintro _ w15 ⟨rfl, hx15⟩
  have hz15 := hx15.size
  have hS12_15 := hS12_14
  replace hS12_15 := hS12_15.ex hx15
  replace hF := hF.ex hx15
  refine segD [15, 16] [0, 1, 2, 3, 4, 5, 6, 7, 11, 12, 17, 20, 23, 24, 26, 8, 13, 9, 10, 14, 15, 16] [(6, .int .i64 5), (8, .int .i64 5), (38, .bool true), (49, .int .i64 0), (50, .pointer none), (53, .pointer none), (57, .int .i64 0), (59, .int .i64 0)] (by kernel_rfl) ?_
  refine stD (i := 18) (by kernel_rfl) hS12_15 (callR (some 51) 43 #[.pointer none] Try.call43 (rleft_nil w15 ) (by kernel_rfl) ?_)
  rintro _ w16 ⟨rfl, hx16⟩
  have hz16 := hx16.size
  have hS12_16 := hS12_15
  replace hS12_16 := hS12_16.ex hx16
  replace hF := hF.ex hx16
  refine segD [19] [0, 1, 2, 3, 4, 5, 6, 7, 11, 12, 17, 20, 23, 24, 26, 8, 13, 9, 10, 14, 15, 16, 18, 19] [(6, .int .i64 5), (8, .int .i64 5), (38, .bool true), (52, .int .i64 0), (53, .pointer none), (57, .int .i64 0), (59, .int .i64 0)] (by kernel_rfl) ?_
  refine stD (i := 21) (by kernel_rfl) hS12_16 (callR (some 54) 36 #[.pointer none] Try.call36 (wlen_nil w16 ) (by kernel_rfl) ?_)
  rintro _ w17 ⟨rfl, hx17⟩
  have hz17 := hx17.size
  have hS12_17 := hS12_16
  replace hS12_17 := hS12_17.ex hx17
  replace hF := hF.ex hx17
  refine segD [22, 25, 27, 28, 29, 30, 31] [0, 1, 2, 3, 4, 5, 6, 7, 11, 12, 17, 20, 23, 24, 26, 8, 13, 9, 10, 14, 15, 16, 18, 19, 21, 22, 25, 27, 28, 29, 30, 31] [(8, .int .i64 5), (63, .bool true), (64, .int .i64 5)] (by kernel_rfl) ?_
  refine stD (i := 32) (by kernel_rfl) hS12_17 (callR (some 65) 18 #[.int .i64 5] Try.call18 (num_c w17 5) (by kernel_rfl) ?_)
  rintro _ _ ⟨rfl, rfl⟩
  refine segD [33, 34, 35, 36] [0, 1, 2, 3, 4, 5, 6, 7, 11, 12, 17, 20, 23, 24, 26, 8, 13, 9, 10, 14, 15, 16, 18, 19, 21, 22, 25, 27, 28, 29, 30, 31, 32, 33, 34, 35, 36] [(68, .bool true), (69, .int .i64 5)] (by kernel_rfl) ?_
  refine stD (i := 37) (by kernel_rfl) hS12_17 (callR (some 70) 18 #[.int .i64 5] Try.call18 (num_c w17 5) (by kernel_rfl) ?_)
  rintro _ _ ⟨rfl, rfl⟩
  refine segD [38, 39, 40] [0, 1, 2, 3, 4, 5, 6, 7, 11, 12, 17, 20, 23, 24, 26, 8, 13, 9, 10, 14, 15, 16, 18, 19, 21, 22, 25, 27, 28, 29, 30, 31, 32, 33, 34, 35, 36, 37, 38, 39, 40] [(73, .bool true)] (by kernel_rfl) ?_
  refine stD (i := 41) (by kernel_rfl) hS12_17 (callR (some 74) 15 #[] Try.call15 (live_c w17) (by kernel_rfl) ?_)
  rintro _ w18 ⟨rfl, hx18⟩
  have hz18 := hx18.size
  have hS12_18 := hS12_17
  replace hS12_18 := hS12_18.ex hx18
  replace hF := hF.ex hx18
  refine segD [42, 43] [0, 1, 2, 3, 4, 5, 6, 7, 11, 12, 17, 20, 23, 24, 26, 8, 13, 9, 10, 14, 15, 16, 18, 19, 21, 22, 25, 27, 28, 29, 30, 31, 32, 33, 34, 35, 36, 37, 38, 39, 40, 41, 42, 43] [(2, .bool true)] (by kernel_rfl) ?_
  refine endD (by kernel_rfl) hS12_18 ?_
  refine retR [2] [.bool true] (by kernel_rfl) (by kernel_rfl) (by kernel_rfl) ?_
  exact ⟨_, rfl, rfl, hF⟩

end Go.Proofs.Ytgkiegplmohgkaa.F
