/- FieldWrites: the walk. -/
import Derived.Test.YtgkiegplmohgkaaF2
import Derived.Test.YtgkiegplmohgkaaF4
import Derived.Test.YtgkiegplmohgkaaT
set_option linter.unusedVariables false
set_option linter.unusedSimpArgs false
namespace Go.Proofs.Ytgkiegplmohgkaa.F
open Go Go.RowKit Go.Proofs.Ytgkiegplmohgkaa.K
theorem fieldWrites_c (w : World) (most : Int) (hm : -9223372036854775808 ≤ most ∧ most ≤ 9223372036854775807) (s : Sls TAct) (hs : s.Ok 0 w.heap.size w) :
    Calls Try.prog 8 #[.int .i64 most, .slice s.A s.l.length s.c] w fun e w' => ∃ v, e = .returned v ∧ (v = .bool true ∧ Ex w w') := by
  refine callsR Try.func8 (by kernel_rfl) (by kernel_rfl) ?_
  have hmx : maxLen = 9223372036854775807 := rfl
  have hF : Ex w w := Kp.refl _ _
  have q1 : s.l.length ≤ s.c := Sls.Ok.le hs
  have q1m : s.c ≤ maxLen := Sls.Ok.max hs
  refine seg 11 [.co [1, 0, 1], .co [1, 1]] [(0, .int .i64 most), (1, .slice s.A s.l.length s.c), (13, .bool (decide ((s.l.length : Int) > 100)))] (by kernel_rfl) ?_
  rcases bsplit (decide ((s.l.length : Int) > 100)) with hb2 | hb2
  · rw [hb2]
    have h2 := of_decide_eq_true hb2
    refine seg 3 [.op [1, 0, 1, 0, 0] 0, .co [1, 0, 1, 0, 1], .co [1, 1]] [] (by kernel_rfl) ?_
    refine st (callR (some 14) 15 #[] Try.call15 (live_c w) (by kernel_rfl) ?_)
    rintro _ w3 ⟨rfl, hx3⟩
    have hz3 := hx3.size
    replace hF := hF.ex hx3
    refine seg 2 [.co [1, 0, 1, 0, 1], .co [1, 1]] [(4, .bool true)] (by kernel_rfl) ?_
    refine retR [4] [.bool true] (by kernel_rfl) (by kernel_rfl) (by kernel_rfl) ?_
    exact ⟨_, rfl, rfl, hF⟩
  · rw [hb2]
    have h2 := of_decide_eq_false hb2
    refine seg 5 [.op [1, 1, 0] 1, .co [1, 1, 1]] [(0, .int .i64 most), (1, .slice s.A s.l.length s.c), (15, .int .i64 most)] (by kernel_rfl) ?_
    refine st (callR (some 16) 30 #[.int .i64 most] Try.call30 (wnew_c w most (by omega)) (by kernel_rfl) ?_)
    rintro _ w4 ⟨g4, rfl, hx4, hgs4, hz4, hg4⟩
    have hlm4 : 0 ≤ max most 0 ∧ max most 0 ≤ 9223372036854775807 := by omega
    replace hs : Sls.Ok _ _ _ s := Dat.kp (a := s) hs hx4 (fun _ e => e.elim)
    replace hF := hF.ex hx4
    refine seg 6 [.op [1, 1, 1, 0] 2, .co [1, 1, 1, 1]] [(1, .slice s.A s.l.length s.c), (5, .pointer (some (⟨g4, 0, none⟩))), (18, .agg #[.slice none 0 0, .int .i64 most, .int .i64 0])] (by kernel_rfl) ?_
    refine st (newR (some 6) (fun g => .pointer (some ⟨g, 0, none⟩)) (.cells #[.slice none 0 0, .int .i64 0, .int .i64 0] 54) (by kernel_rfl) ?_)
    intro g5 w5 hgs5 hx5 hg5 hz5
    replace hs : Sls.Ok _ _ _ s := Dat.kp (a := s) hs hx5 (fun _ e => e.elim)
    replace hg4 := hx5.blk hg4 (fun e => e)
    replace hF := hF.ex hx5
    refine st (stAggR none 54 g5 0 [.slice none 0 0, .int .i64 most, .int .i64 0] #[.slice none 0 0, .int .i64 0, .int .i64 0] #[.slice none 0 0, .int .i64 most, .int .i64 0] 54 (by kernel_rfl) (by kernel_rfl) (by rfl) hg5 (by simp) (by rfl) ?_)
    intro w6 hx6 hg6 hz6
    replace hs : Sls.Ok _ _ _ s := Dat.kp (a := s) hs hx6 (fun k (hk : k = g5) => by omega)
    replace hg4 := hx6.blk hg4 (fun e => by have e : g4 = g5 := e; omega)
    replace hF := hF.step hx6 (fun k hk hlt => by have hk : k = g5 := hk; omega)
    refine seg 7 [.co [1, 1, 1, 1, 0, 1, 0], .bl 0, .co [1, 1, 1, 1, 1]] [(1, .slice s.A s.l.length s.c), (5, .pointer (some (⟨g4, 0, none⟩))), (6, .pointer (some (⟨g5, 0, none⟩))), (7, .int .i64 0)] (by kernel_rfl) ?_
    have hbz : (g5 + 1) ≤ w6.heap.size := by have := blk_lt hg6; omega
    have hbz0 : w.heap.size ≤ g4 ∧ g4 < g5 := by omega
    refine loopR 0 (fun (x : Nat × List UInt8 × Int × Option Addr × Nat × Option Addr × Nat) => [(1, .slice s.A s.l.length s.c), (5, .pointer (some (⟨g4, 0, none⟩))), (6, .pointer (some (⟨g5, 0, none⟩))), (7, .int .i64 (x.1 : Int))]) (fun (x : Nat × List UInt8 × Int × Option Addr × Nat × Option Addr × Nat) (wl7 : World) => x.1 ≤ s.l.length ∧ x.2.1.length ≤ x.1 * 70010 ∧ Sls.Ok 0 w.heap.size wl7 s ∧ wl7.ownsRow (g5 + 1) 5 1 (.slice x.2.2.2.1 x.2.1.length x.2.2.2.2.1) x.2.1.length (bs x.2.1) ∧ wl7.ownsRow (g5 + 1) 5 1 (.slice x.2.2.2.2.2.1 x.2.1.length x.2.2.2.2.2.2) x.2.1.length (bs x.2.1) ∧ wl7.heap[g4]? = some (.cells #[.slice x.2.2.2.1 x.2.1.length x.2.2.2.2.1, .int .i64 (max most 0), .int .i64 x.2.2.1] 95 (0, 0)) ∧ wl7.heap[g5]? = some (.cells #[.slice x.2.2.2.2.2.1 x.2.1.length x.2.2.2.2.2.2, .int .i64 most, .int .i64 x.2.2.1] 54 (0, 0)) ∧ Apart x.2.2.2.1 x.2.2.2.2.2.1 ∧ Ex w wl7) (fun (x : Nat × List UInt8 × Int × Option Addr × Nat × Option Addr × Nat) => s.l.length - x.1) (0, [], 0, none, 0, none, 0) (by kernel_rfl) (by kernel_rfl) (by kernel_rfl) ?_ ?_
    · exact ⟨Nat.zero_le _, Nat.le_refl _, hs, (World.ownsRow_nil _ _ _ _), (World.ownsRow_nil _ _ _ _), hg4, hg6, (Apart.none_l _), hF⟩
    rintro ⟨i, l, e, A1, c1, A2, c2⟩ wl7 ⟨hi, hll, hd8, hn9, hn10, hg11, hg12, hap13, hF⟩
    try dsimp only at hi
    try dsimp only at hll
    try dsimp only at hd8
    try dsimp only at hn9
    try dsimp only at hn10
    try dsimp only at hg11
    try dsimp only at hg12
    try dsimp only at hap13
    try dsimp only at hF
    have hzwl7 := hF.size
    have hbl14 := blk_lt hg11
    have hbl15 := blk_lt hg12
    refine seg 8 [.co [1, 1, 1, 1, 0, 1, 0, 0, 0, 1], .co [1, 1, 1, 1, 0, 1, 0, 0, 1], .le 0, .bl 0, .co [1, 1, 1, 1, 1]] [(1, .slice s.A s.l.length s.c), (5, .pointer (some (⟨g4, 0, none⟩))), (6, .pointer (some (⟨g5, 0, none⟩))), (7, .int .i64 (i : Int)), (22, .bool (decide ((i : Int) < (s.l.length : Int))))] (by kernel_rfl) ?_
    rcases bsplit (decide ((i : Int) < (s.l.length : Int))) with hb16 | hb16
    · rw [hb16]
      have h16 := of_decide_eq_true hb16
      refine seg 9 [.op [1, 1, 1, 1, 0, 1, 0, 0, 1, 0, 0, 0, 0] 2, .co [1, 1, 1, 1, 0, 1, 0, 0, 1, 0, 0, 0, 1], .co [1, 1, 1, 1, 0, 1, 0, 0, 1, 0, 0, 1], .bl 1, .co [1, 1, 1, 1, 0, 1, 0, 0, 1, 1], .le 0, .bl 0, .co [1, 1, 1, 1, 1]] [(1, .slice s.A s.l.length s.c), (5, .pointer (some (⟨g4, 0, none⟩))), (6, .pointer (some (⟨g5, 0, none⟩))), (7, .int .i64 (i : Int)), (25, .slice s.A s.l.length s.c), (26, .int .i64 (i : Int))] (by kernel_rfl) ?_
      obtain ⟨x18, hx18⟩ : ∃ x, s.l[i]? = some x := ⟨_, List.getElem?_eq_getElem (by omega)⟩
      have ox18 : TAct.Ok _ _ _ x18 := Sls.Ok.el hd8 x18 (List.mem_of_getElem? hx18)
      have q20 : -9223372036854775808 ≤ x18.Do ∧ x18.Do ≤ 9223372036854775807 := ox18.Do
      have q21 : -9223372036854775808 ≤ x18.N ∧ x18.N ≤ 9223372036854775807 := ox18.N
      have q22 : x18.V < 18446744073709551616 := ox18.V
      have q23 : x18.B.l.length ≤ x18.B.c := Sls.Ok.le ox18.B
      have q23m : x18.B.c ≤ maxLen := Sls.Ok.max ox18.B
      obtain ⟨ad17, ea17, l117, l217, ca17⟩ := Cs.row (Sls.Ok.cs hd8) (n := 4) rfl (by decide) hx18
      refine st (idxR (some 27) 50 56 4 s.A ad17 s.l.length s.c .i64 (i : Int) (i * 4) ea17 (by kernel_rfl) (by kernel_rfl) (by omega) (by omega) (by omega) ?_)
      refine seg 1 [.op [1, 1, 1, 1, 0, 1, 0, 0, 1, 0, 0, 0, 0] 4, .co [1, 1, 1, 1, 0, 1, 0, 0, 1, 0, 0, 0, 1], .co [1, 1, 1, 1, 0, 1, 0, 0, 1, 0, 0, 1], .bl 1, .co [1, 1, 1, 1, 0, 1, 0, 0, 1, 1], .le 0, .bl 0, .co [1, 1, 1, 1, 1]] [(1, .slice s.A s.l.length s.c), (5, .pointer (some (⟨g4, 0, none⟩))), (6, .pointer (some (⟨g5, 0, none⟩))), (7, .int .i64 (i : Int)), (28, .pointer (some ((ad17.add (i * 4)).add 3)))] (by kernel_rfl) ?_
      refine st (ldR (some 29) 22 ((ad17.add (i * 4)).add 3) (.slice x18.B.A x18.B.l.length x18.B.c) (by kernel_rfl) (by kernel_rfl) (ca17 3 _ rfl) ?_)
      refine seg 3 [.co [1, 1, 1, 1, 0, 1, 0, 0, 1, 0, 0, 0, 1], .co [1, 1, 1, 1, 0, 1, 0, 0, 1, 0, 0, 1], .bl 1, .co [1, 1, 1, 1, 0, 1, 0, 0, 1, 1], .le 0, .bl 0, .co [1, 1, 1, 1, 1]] [(1, .slice s.A s.l.length s.c), (5, .pointer (some (⟨g4, 0, none⟩))), (6, .pointer (some (⟨g5, 0, none⟩))), (7, .int .i64 (i : Int)), (31, .bool (decide ((x18.B.l.length : Int) > 70000)))] (by kernel_rfl) ?_
      rcases bsplit (decide ((x18.B.l.length : Int) > 70000)) with hb24 | hb24
      · rw [hb24]
        have h24 := of_decide_eq_true hb24
        refine seg 3 [.op [1, 1, 1, 1, 0, 1, 0, 0, 1, 0, 0, 0, 1, 0, 0] 0, .co [1, 1, 1, 1, 0, 1, 0, 0, 1, 0, 0, 0, 1, 0, 1], .co [1, 1, 1, 1, 0, 1, 0, 0, 1, 0, 0, 1], .bl 1, .co [1, 1, 1, 1, 0, 1, 0, 0, 1, 1], .le 0, .bl 0, .co [1, 1, 1, 1, 1]] [] (by kernel_rfl) ?_
        have hlt26 := own_lt hn9
        have hlt27 := own_lt hn10
        refine st (callR (some 32) 15 #[] Try.call15 (live_c wl7) (by kernel_rfl) ?_)
        rintro _ w25 ⟨rfl, hx25⟩
        have hz25 := hx25.size
        replace hn9 := own_ex hn9 hx25
        replace hn10 := own_ex hn10 hx25
        replace hd8 : Sls.Ok _ _ _ s := Dat.kp (a := s) hd8 hx25 (fun _ e => e.elim)
        replace ox18 : TAct.Ok _ _ _ x18 := Dat.kp (a := x18) ox18 hx25 (fun _ e => e.elim)
        replace hg11 := hx25.blk hg11 (fun e => e)
        replace hg12 := hx25.blk hg12 (fun e => e)
        replace hF := hF.ex hx25
        refine seg 2 [.co [1, 1, 1, 1, 0, 1, 0, 0, 1, 0, 0, 0, 1, 0, 1], .co [1, 1, 1, 1, 0, 1, 0, 0, 1, 0, 0, 1], .bl 1, .co [1, 1, 1, 1, 0, 1, 0, 0, 1, 1], .le 0, .bl 0, .co [1, 1, 1, 1, 1]] [(4, .bool true)] (by kernel_rfl) ?_
        refine retR [4] [.bool true] (by kernel_rfl) (by kernel_rfl) (by kernel_rfl) ?_
        exact ⟨_, rfl, rfl, hF⟩
      · rw [hb24]
        have h24 := of_decide_eq_false hb24
        refine seg 3 [.co [1, 1, 1, 1, 0, 1, 0, 0, 1, 0, 0, 1, 0], .co [1, 1, 1, 1, 0, 1, 0, 0, 1, 0, 0, 1, 1], .bl 1, .co [1, 1, 1, 1, 0, 1, 0, 0, 1, 1], .le 0, .bl 0, .co [1, 1, 1, 1, 1]] [(1, .slice s.A s.l.length s.c), (5, .pointer (some (⟨g4, 0, none⟩))), (6, .pointer (some (⟨g5, 0, none⟩))), (7, .int .i64 (i : Int))] (by kernel_rfl) ?_
        refine drawT (fun k => w.heap.size ≤ k) (by kernel_rfl) (by kernel_rfl) ?_
        intro w28 hx28 hz28
        have hn9_28 := hn9
        have hn10_28 := hn10
        have hg11_28 := hg11
        have hg12_28 := hg12
        have hd8_28 := hd8
        have ox18_28 := ox18
        replace hn9_28 := own_ex hn9_28 hx28
        replace hn10_28 := own_ex hn10_28 hx28
        replace hd8_28 : Sls.Ok _ _ _ s := Dat.kp (a := s) hd8_28 hx28 (fun _ e => e.elim)
        replace ox18_28 : TAct.Ok _ _ _ x18 := Dat.kp (a := x18) ox18_28 hx28 (fun _ e => e.elim)
        replace hg11_28 := hx28.blk hg11_28 (fun e => e)
        replace hg12_28 := hx28.blk hg12_28 (fun e => e)
        replace hF := hF.ex hx28
        have hS28 := Kp.refl (fun k => w.heap.size ≤ k) w28
        refine segD [1, 2] [1, 2] [(1, .slice s.A s.l.length s.c), (5, .pointer (some (⟨g4, 0, none⟩))), (6, .pointer (some (⟨g5, 0, none⟩))), (7, .int .i64 (i : Int)), (34, .slice s.A s.l.length s.c), (35, .int .i64 (i : Int))] (by kernel_rfl) ?_
        obtain ⟨ad29, ea29, l129, l229, ca29⟩ := Cs.row (Sls.Ok.cs hd8_28) (n := 4) rfl (by decide) hx18
        refine takeD (i := 3) (d := (some 36)) (s := vS (Instr.indexAt 50 (.slice s.A s.l.length s.c) (.int .i64 (i : Int)))) (v := .pointer (some (ad29.add (i * 4)))) (by kernel_rfl) (by kernel_rfl) (fun w' hw' => idx_run 50 56 4 _ ad29 _ _ _ _ (i * 4) ea29 (by kernel_rfl) (by omega) (by omega) (by omega)) ?_
        refine takeD (i := 4) (d := (some 37)) (s := vS (Instr.loadAt 56 (.pointer (some (ad29.add (i * 4)))))) (v := .agg #[.int .i64 x18.Do, .int .i64 x18.N, .int .u64 (x18.V : Int), .slice x18.B.A x18.B.l.length x18.B.c]) (by kernel_rfl) (by kernel_rfl) (fun w' hw' => aggRun _ _ [.int .i64 x18.Do, .int .i64 x18.N, .int .u64 (x18.V : Int), .slice x18.B.A x18.B.l.length x18.B.c] (by kernel_rfl) (fun j v hj => hw'.cell (ca29 j v hj) (by simp only [add_block]; exact (fun e => by have e : w.heap.size ≤ _ := e; omega)))) ?_
        refine stD (i := 0) (by kernel_rfl) hS28 (ldAggR (some 33) 54 (⟨g5, 0, none⟩) [.slice A2 l.length c2, .int .i64 most, .int .i64 e] (by kernel_rfl) (by kernel_rfl) (blk_cells hg12_28 (by kernel_rfl)) ?_)
        have hlt31 := own_lt hn9_28
        have hlt32 := own_lt hn10_28
        refine stD (i := 5) (by kernel_rfl) hS28 (callR (some 38) 31 #[.agg #[.slice A2 l.length c2, .int .i64 most, .int .i64 e], .agg #[.int .i64 x18.Do, .int .i64 x18.N, .int .u64 (x18.V : Int), .slice x18.B.A x18.B.l.length x18.B.c]] Try.call31 (rwrite_c w28 (g5 + 1) l.length c2 A2 most e hn10_28 (by omega) (by omega) (by omega) x18 (Dat.old (a := x18) ox18_28) (by omega)) (by kernel_rfl) ?_)
        rintro _ w30 ⟨A30, c30, rfl, hx30, hn30, hb30⟩
        have hz30 := hx30.size
        have hc30 := own_cap hn30
        have hn9_30 := hn9_28
        have hn10_30 := hn10_28
        have hg11_30 := hg11_28
        have hg12_30 := hg12_28
        have hd8_30 := hd8_28
        have ox18_30 := ox18_28
        have hS28_30 := hS28
        replace hn9_30 := own_ex hn9_30 hx30
        replace hn10_30 := own_ex hn10_30 hx30
        replace hd8_30 : Sls.Ok _ _ _ s := Dat.kp (a := s) hd8_30 hx30 (fun _ e => e.elim)
        replace ox18_30 : TAct.Ok _ _ _ x18 := Dat.kp (a := x18) ox18_30 hx30 (fun _ e => e.elim)
        replace hg11_30 := hx30.blk hg11_30 (fun e => e)
        replace hg12_30 := hx30.blk hg12_30 (fun e => e)
        replace hS28_30 := hS28_30.ex hx30
        replace hF := hF.ex hx30
        have hap33 := Apart.to_r hap13 hlt31 hb30
        refine stD (i := 6) (by kernel_rfl) hS28_30 (stAggR none 54 g5 0 [.slice A30 ((addL l (addE (max most 0) l.length e (actE1 x18.Do x18.N x18.V x18.B.l) (actM x18.Do x18.N x18.B.l)) (actX x18.Do x18.N x18.V x18.B.l)).length) c30, .int .i64 most, .int .i64 (addE (max most 0) l.length e (actE1 x18.Do x18.N x18.V x18.B.l) (actM x18.Do x18.N x18.B.l))] #[.slice A2 l.length c2, .int .i64 most, .int .i64 e] #[.slice A30 ((addL l (addE (max most 0) l.length e (actE1 x18.Do x18.N x18.V x18.B.l) (actM x18.Do x18.N x18.B.l)) (actX x18.Do x18.N x18.V x18.B.l)).length) c30, .int .i64 most, .int .i64 (addE (max most 0) l.length e (actE1 x18.Do x18.N x18.V x18.B.l) (actM x18.Do x18.N x18.B.l))] 54 (by kernel_rfl) (by kernel_rfl) (by rfl) hg12_30 (by simp) (by rfl) ?_)
        intro w34 hx34 hg34 hz34
        have hn9_34 := hn9_30
        have hn30_34 := hn30
        have hg11_34 := hg11_30
        have hg12_34 := hg12_30
        have hd8_34 := hd8_30
        have ox18_34 := ox18_30
        have hS28_34 := hS28_30
        replace hn9_34 := own_kp hn9_34 hx34 (fun k hk (e : k = g5) => by have h1 := own_ge hn9_34 hk.symm; first | omega | (have h2 := hlt31 k hk.symm; omega))
        replace hn30_34 := own_kp hn30_34 hx34 (fun k hk (e : k = g5) => by have h1 := own_ge hn30_34 hk.symm; first | omega)
        replace hd8_34 : Sls.Ok _ _ _ s := Dat.kp (a := s) hd8_34 hx34 (fun k (hk : k = g5) => by omega)
        replace ox18_34 : TAct.Ok _ _ _ x18 := Dat.kp (a := x18) ox18_34 hx34 (fun k (hk : k = g5) => by omega)
        replace hg11_34 := hx34.blk hg11_34 (fun e => by have e : g4 = g5 := e; omega)
        replace hS28_34 := hS28_34.step hx34 (fun k hk hlt => by have hk : k = g5 := hk; omega)
        replace hF := hF.step hx34 (fun k hk hlt => by have hk : k = g5 := hk; omega)
        refine endD (by kernel_rfl) hS28_34 ?_
        refine seg 5 [.op [1, 1, 1, 1, 0, 1, 0, 0, 1, 0, 0, 1, 1, 0, 0] 2, .co [1, 1, 1, 1, 0, 1, 0, 0, 1, 0, 0, 1, 1, 0, 1], .co [1, 1, 1, 1, 0, 1, 0, 0, 1, 0, 0, 1, 1, 1], .bl 1, .co [1, 1, 1, 1, 0, 1, 0, 0, 1, 1], .le 0, .bl 0, .co [1, 1, 1, 1, 1]] [(1, .slice s.A s.l.length s.c), (5, .pointer (some (⟨g4, 0, none⟩))), (6, .pointer (some (⟨g5, 0, none⟩))), (7, .int .i64 (i : Int)), (39, .slice s.A s.l.length s.c), (40, .int .i64 (i : Int))] (by kernel_rfl) ?_
        obtain ⟨ad35, ea35, l135, l235, ca35⟩ := Cs.row (Sls.Ok.cs hd8_34) (n := 4) rfl (by decide) hx18
        refine st (idxR (some 41) 50 56 4 s.A ad35 s.l.length s.c .i64 (i : Int) (i * 4) ea35 (by kernel_rfl) (by kernel_rfl) (by omega) (by omega) (by omega) ?_)
        refine seg 1 [.op [1, 1, 1, 1, 0, 1, 0, 0, 1, 0, 0, 1, 1, 0, 0] 4, .co [1, 1, 1, 1, 0, 1, 0, 0, 1, 0, 0, 1, 1, 0, 1], .co [1, 1, 1, 1, 0, 1, 0, 0, 1, 0, 0, 1, 1, 1], .bl 1, .co [1, 1, 1, 1, 0, 1, 0, 0, 1, 1], .le 0, .bl 0, .co [1, 1, 1, 1, 1]] [(1, .slice s.A s.l.length s.c), (5, .pointer (some (⟨g4, 0, none⟩))), (6, .pointer (some (⟨g5, 0, none⟩))), (7, .int .i64 (i : Int)), (42, .pointer (some (ad35.add (i * 4))))] (by kernel_rfl) ?_
        refine st (ldR (some 43) 3 (ad35.add (i * 4)) (.int .i64 x18.Do) (by kernel_rfl) (by kernel_rfl) (add0 (ca35 0 _ rfl)) ?_)
        refine seg 7 [.co [1, 1, 1, 1, 0, 1, 0, 0, 1, 0, 0, 1, 1, 0, 1, 0, 1], .bl 2, .co [1, 1, 1, 1, 0, 1, 0, 0, 1, 0, 0, 1, 1, 1], .bl 1, .co [1, 1, 1, 1, 0, 1, 0, 0, 1, 1], .le 0, .bl 0, .co [1, 1, 1, 1, 1]] [(1, .slice s.A s.l.length s.c), (5, .pointer (some (⟨g4, 0, none⟩))), (6, .pointer (some (⟨g5, 0, none⟩))), (7, .int .i64 (i : Int)), (43, .int .i64 x18.Do), (51, .bool (x18.Do == 0))] (by kernel_rfl) ?_
        rcases bsplit (x18.Do == 0) with hb36 | hb36
        · rw [hb36]
          have h36 : x18.Do = 0 := by simpa using hb36
          refine seg 1 [.co [1, 1, 1, 1, 0, 1, 0, 0, 1, 0, 0, 1, 1, 0, 1, 0, 1, 0], .bl 2, .co [1, 1, 1, 1, 0, 1, 0, 0, 1, 0, 0, 1, 1, 1], .bl 1, .co [1, 1, 1, 1, 0, 1, 0, 0, 1, 1], .le 0, .bl 0, .co [1, 1, 1, 1, 1]] [(1, .slice s.A s.l.length s.c), (5, .pointer (some (⟨g4, 0, none⟩))), (6, .pointer (some (⟨g5, 0, none⟩))), (7, .int .i64 (i : Int))] (by kernel_rfl) ?_
          refine drawT (fun k => w.heap.size ≤ k) (by kernel_rfl) (by kernel_rfl) ?_
          intro w37 hx37 hz37
          have hn9_37 := hn9_34
          have hn30_37 := hn30_34
          have hg11_37 := hg11_34
          have hg34_37 := hg34
          have hd8_37 := hd8_34
          have ox18_37 := ox18_34
          replace hn9_37 := own_ex hn9_37 hx37
          replace hn30_37 := own_ex hn30_37 hx37
          replace hd8_37 : Sls.Ok _ _ _ s := Dat.kp (a := s) hd8_37 hx37 (fun _ e => e.elim)
          replace ox18_37 : TAct.Ok _ _ _ x18 := Dat.kp (a := x18) ox18_37 hx37 (fun _ e => e.elim)
          replace hg11_37 := hx37.blk hg11_37 (fun e => e)
          replace hg34_37 := hx37.blk hg34_37 (fun e => e)
          replace hF := hF.ex hx37
          have hS37 := Kp.refl (fun k => w.heap.size ≤ k) w37
          refine segD [0, 1, 2, 6, 7] [0, 1, 2, 6, 7] [(1, .slice s.A s.l.length s.c), (5, .pointer (some (⟨g4, 0, none⟩))), (6, .pointer (some (⟨g5, 0, none⟩))), (7, .int .i64 (i : Int)), (53, .pointer (some (⟨g4, 0, none⟩))), (54, .slice s.A s.l.length s.c), (55, .int .i64 (i : Int)), (59, .slice s.A s.l.length s.c), (60, .int .i64 (i : Int))] (by kernel_rfl) ?_
          obtain ⟨ad38, ea38, l138, l238, ca38⟩ := Cs.row (Sls.Ok.cs hd8_37) (n := 4) rfl (by decide) hx18
          refine takeD (i := 3) (d := (some 56)) (s := vS (Instr.indexAt 50 (.slice s.A s.l.length s.c) (.int .i64 (i : Int)))) (v := .pointer (some (ad38.add (i * 4)))) (by kernel_rfl) (by kernel_rfl) (fun w' hw' => idx_run 50 56 4 _ ad38 _ _ _ _ (i * 4) ea38 (by kernel_rfl) (by omega) (by omega) (by omega)) ?_
          refine segD [4] [0, 1, 2, 6, 7, 3, 4] [(1, .slice s.A s.l.length s.c), (5, .pointer (some (⟨g4, 0, none⟩))), (6, .pointer (some (⟨g5, 0, none⟩))), (7, .int .i64 (i : Int)), (53, .pointer (some (⟨g4, 0, none⟩))), (57, .pointer (some ((ad38.add (i * 4)).add 2))), (59, .slice s.A s.l.length s.c), (60, .int .i64 (i : Int))] (by kernel_rfl) ?_
          refine takeD (i := 5) (d := (some 58)) (s := vS (Instr.loadAt 24 (.pointer (some ((ad38.add (i * 4)).add 2))))) (v := .int .u64 (x18.V : Int)) (by kernel_rfl) (by kernel_rfl) (fun w' hw' => ld_run _ _ _ (by kernel_rfl) (hw'.cell (ca38 2 _ rfl) (by (try simp only [add_block]); exact (fun e => by have e : w.heap.size ≤ _ := e; omega)))) ?_
          obtain ⟨ad39, ea39, l139, l239, ca39⟩ := Cs.row (Sls.Ok.cs hd8_37) (n := 4) rfl (by decide) hx18
          refine stD (i := 8) (by kernel_rfl) hS37 (idxR (some 61) 50 56 4 s.A ad39 s.l.length s.c .i64 (i : Int) (i * 4) ea39 (by kernel_rfl) (by kernel_rfl) (by omega) (by omega) (by omega) ?_)
          refine segD [9] [0, 1, 2, 6, 7, 3, 4, 5, 8, 9] [(1, .slice s.A s.l.length s.c), (5, .pointer (some (⟨g4, 0, none⟩))), (6, .pointer (some (⟨g5, 0, none⟩))), (7, .int .i64 (i : Int)), (53, .pointer (some (⟨g4, 0, none⟩))), (58, .int .u64 (x18.V : Int)), (62, .pointer (some ((ad39.add (i * 4)).add 1)))] (by kernel_rfl) ?_
          refine stD (i := 10) (by kernel_rfl) hS37 (ldR (some 63) 3 ((ad39.add (i * 4)).add 1) (.int .i64 x18.N) (by kernel_rfl) (by kernel_rfl) (ca39 1 _ rfl) ?_)
          rw [show actX x18.Do x18.N x18.V x18.B.l = enc ((x18.N).toNat) x18.V from by simp [actX, h36]] at hn30_37 hg34_37
          rw [show actE1 x18.Do x18.N x18.V x18.B.l = putE x18.V x18.N from by simp [actE1, h36]] at hn30_37 hg34_37
          rw [show actM x18.Do x18.N x18.B.l = x18.N from by simp [actM, h36]] at hn30_37 hg34_37
          have hll40 : (l).length = l.length := (by first | rfl | omega | (simp; omega))
          have hlt41 := own_lt hn9_37
          have hlt42 := own_lt hn30_37
          refine stD (i := 11) (by kernel_rfl) hS37 (callR (some 64) 32 #[.pointer (some (⟨g4, 0, none⟩)), .int .u64 (x18.V : Int), .int .i64 x18.N] Try.call32 (wnum_c w37 g4 (g5 + 1) l.length c1 A1 (max most 0) e hg11_37 hn9_37 (by omega) (by omega) (by omega) x18.V (by omega) x18.N (by omega)) (by kernel_rfl) ?_)
          rintro _ w40 ⟨A40, c40, rfl, hg40, hn40, hW40⟩
          have hz40 := hW40.kp.size
          have hc40 := own_cap hn40
          have hn9_40kp := hn9_37
          have hn30_40kp := hn30_37
          have hg11_40kp := hg11_37
          have hg34_40kp := hg34_37
          have hd8_40kp := hd8_37
          have ox18_40kp := ox18_37
          have hS37_40kp := hS37
          replace hn30_40kp := own_kp hn30_40kp hW40.kp (fun k hk e => by have h1 := own_ge hn30_40kp hk.symm; rcases e with e | e <;> first | omega | cases e | (have h2 := own_ge hn9_37 e; omega) | (have h2 := own_ge hn9_37 e; have h3 := hlt42 k hk.symm; omega) | (have h2 := hlt31 k e; omega) | (have h2 := hlt41 k e; omega) | exact absurd hk.symm (hap33 _ _ _ _ k e))
          replace hd8_40kp : Sls.Ok _ _ _ s := Dat.kp (a := s) hd8_40kp hW40.kp (fun k hk => by rcases hk with hk | hk <;> first | omega | exact .inr (by have := own_ge hn9_37 hk; omega) | cases hk | exact .inl (by have := hlt31 k hk; omega) | exact .inl (by have := hlt41 k hk; omega))
          replace ox18_40kp : TAct.Ok _ _ _ x18 := Dat.kp (a := x18) ox18_40kp hW40.kp (fun k hk => by rcases hk with hk | hk <;> first | omega | exact .inr (by have := own_ge hn9_37 hk; omega) | cases hk | exact .inl (by have := hlt31 k hk; omega) | exact .inl (by have := hlt41 k hk; omega))
          replace hg34_40kp := hW40.kp.blk hg34_40kp (fun e => by rcases e with e | e <;> first | omega | cases e | (have := own_ge hn9_37 e; omega) | (have := hlt31 _ e; omega) | (have := hlt41 _ e; omega))
          replace hS37_40kp := hS37_40kp.step hW40.kp (fun k hk hlt => by rcases hk with hk | hk <;> first | omega | cases hk | (have := own_ge hn9_37 hk; omega))
          replace hF := hF.step hW40.kp (fun k hk hlt => (by rcases hk with hk | hk <;> first | omega | cases hk | (have := own_ge hn9_37 hk; omega)))
          have hap43 := (Apart.to_r hap33.symm hlt42 hW40.at_).symm
          have hlen := addL_num l (max most 0) l.length e x18.V x18.N
          refine endD (by kernel_rfl) hS37_40kp ?_
          refine seg 4 [.op [1, 1, 1, 1, 0, 1, 0, 0, 1, 0, 0, 1, 1, 1, 0] 1, .co [1, 1, 1, 1, 0, 1, 0, 0, 1, 0, 0, 1, 1, 1, 1], .bl 1, .co [1, 1, 1, 1, 0, 1, 0, 0, 1, 1], .le 0, .bl 0, .co [1, 1, 1, 1, 1]] [(1, .slice s.A s.l.length s.c), (5, .pointer (some (⟨g4, 0, none⟩))), (6, .pointer (some (⟨g5, 0, none⟩))), (7, .int .i64 (i : Int)), (75, .pointer (some (⟨g4, 0, none⟩)))] (by kernel_rfl) ?_
          have hll44 : ((addL l (addE (max most 0) l.length e (putE x18.V x18.N) x18.N) (enc ((x18.N).toNat) x18.V))).length = (addL l (addE (max most 0) l.length e (putE x18.V x18.N) x18.N) (enc ((x18.N).toNat) x18.V)).length := (by first | rfl | omega | (simp; omega))
          have hlt46 := own_lt hn30_40kp
          have hlt47 := own_lt hn40
          refine st (callR (some 76) 35 #[.pointer (some (⟨g4, 0, none⟩))] Try.call35 (wdone_c w40 g4 A40 ((addL l (addE (max most 0) l.length e (putE x18.V x18.N) x18.N) (enc ((x18.N).toNat) x18.V)).length) c40 (max most 0) (addE (max most 0) l.length e (putE x18.V x18.N) x18.N) hg40 (Cs.of_own hn40) hll44 (by omega)) (by kernel_rfl) ?_)
          rintro _ w45 ⟨A45, c45, rfl, hx45, hn45⟩
          have hz45 := hx45.size
          have hc45 := own_cap hn45
          replace hn30_40kp := own_ex hn30_40kp hx45
          replace hn40 := own_ex hn40 hx45
          replace hd8_40kp : Sls.Ok _ _ _ s := Dat.kp (a := s) hd8_40kp hx45 (fun _ e => e.elim)
          replace ox18_40kp : TAct.Ok _ _ _ x18 := Dat.kp (a := x18) ox18_40kp hx45 (fun _ e => e.elim)
          replace hg40 := hx45.blk hg40 (fun e => e)
          replace hg34_40kp := hx45.blk hg34_40kp (fun e => e)
          replace hF := hF.ex hx45
          refine seg 8 [.co [1, 1, 1, 1, 0, 1, 0, 0, 1, 0, 0, 1, 1, 1, 1, 0, 0], .co [1, 1, 1, 1, 0, 1, 0, 0, 1, 0, 0, 1, 1, 1, 1, 0, 1], .co [1, 1, 1, 1, 0, 1, 0, 0, 1, 0, 0, 1, 1, 1, 1, 1], .bl 1, .co [1, 1, 1, 1, 0, 1, 0, 0, 1, 1], .le 0, .bl 0, .co [1, 1, 1, 1, 1]] [(1, .slice s.A s.l.length s.c), (5, .pointer (some (⟨g4, 0, none⟩))), (6, .pointer (some (⟨g5, 0, none⟩))), (7, .int .i64 (i : Int)), (8, .slice A45 ((doneL (addL l (addE (max most 0) l.length e (putE x18.V x18.N) x18.N) (enc ((x18.N).toNat) x18.V)) (addE (max most 0) l.length e (putE x18.V x18.N) x18.N)).length) c45), (9, .int .i64 (addE (max most 0) l.length e (putE x18.V x18.N) x18.N))] (by kernel_rfl) ?_
          refine drawT (fun _ => False) (by kernel_rfl) (by kernel_rfl) ?_
          intro w48 hx48 hz48
          have hn30_48 := hn30_40kp
          have hn40_48 := hn40
          have hn45_48 := hn45
          have hg40_48 := hg40
          have hg34_48 := hg34_40kp
          have hd8_48 := hd8_40kp
          have ox18_48 := ox18_40kp
          replace hn30_48 := own_ex hn30_48 hx48
          replace hn40_48 := own_ex hn40_48 hx48
          replace hn45_48 := own_ex hn45_48 hx48
          replace hd8_48 : Sls.Ok _ _ _ s := Dat.kp (a := s) hd8_48 hx48 (fun _ e => e.elim)
          replace ox18_48 : TAct.Ok _ _ _ x18 := Dat.kp (a := x18) ox18_48 hx48 (fun _ e => e.elim)
          replace hg40_48 := hx48.blk hg40_48 (fun e => e)
          replace hg34_48 := hx48.blk hg34_48 (fun e => e)
          replace hF := hF.ex hx48
          have hS48 := Kp.refl (fun _ => False) w48
          refine segD [0, 2] [0, 2] [(1, .slice s.A s.l.length s.c), (5, .pointer (some (⟨g4, 0, none⟩))), (6, .pointer (some (⟨g5, 0, none⟩))), (7, .int .i64 (i : Int)), (8, .slice A45 ((doneL (addL l (addE (max most 0) l.length e (putE x18.V x18.N) x18.N) (enc ((x18.N).toNat) x18.V)) (addE (max most 0) l.length e (putE x18.V x18.N) x18.N)).length) c45), (79, .int .i64 (addE (max most 0) l.length e (putE x18.V x18.N) x18.N)), (81, .pointer (some (⟨g5, 2, none⟩)))] (by kernel_rfl) ?_
          refine takeD (i := 3) (d := (some 82)) (s := vS (Instr.loadAt 3 (.pointer (some (⟨g5, 2, none⟩))))) (v := .int .i64 (addE (max most 0) l.length e (putE x18.V x18.N) x18.N)) (by kernel_rfl) (by kernel_rfl) (fun w' hw' => ld_run _ _ _ (by kernel_rfl) (hw'.cell (blk_cell hg34_48 rfl) (fun e => e))) ?_
          have hlt49 := own_lt hn30_48
          have hlt50 := own_lt hn40_48
          have hlt51 := own_lt hn45_48
          refine stD (i := 1) (by kernel_rfl) hS48 (callR (some 80) 18 #[.int .i64 (addE (max most 0) l.length e (putE x18.V x18.N) x18.N)] Try.call18 (num_c w48 (addE (max most 0) l.length e (putE x18.V x18.N) x18.N)) (by kernel_rfl) ?_)
          rintro _ _ ⟨rfl, rfl⟩
          refine segD [4, 5] [0, 2, 3, 1, 4, 5] [(1, .slice s.A s.l.length s.c), (5, .pointer (some (⟨g4, 0, none⟩))), (6, .pointer (some (⟨g5, 0, none⟩))), (7, .int .i64 (i : Int)), (8, .slice A45 ((doneL (addL l (addE (max most 0) l.length e (putE x18.V x18.N) x18.N) (enc ((x18.N).toNat) x18.V)) (addE (max most 0) l.length e (putE x18.V x18.N) x18.N)).length) c45), (84, .bool ((addE (max most 0) l.length e (putE x18.V x18.N) x18.N) != (addE (max most 0) l.length e (putE x18.V x18.N) x18.N)))] (by kernel_rfl) ?_
          rw [show ((addE (max most 0) l.length e (putE x18.V x18.N) x18.N) != (addE (max most 0) l.length e (putE x18.V x18.N) x18.N)) = false from by simp]
          refine segD [6, 8] [0, 2, 3, 1, 4, 5, 6, 8] [(1, .slice s.A s.l.length s.c), (5, .pointer (some (⟨g4, 0, none⟩))), (6, .pointer (some (⟨g5, 0, none⟩))), (7, .int .i64 (i : Int)), (8, .slice A45 ((doneL (addL l (addE (max most 0) l.length e (putE x18.V x18.N) x18.N) (enc ((x18.N).toNat) x18.V)) (addE (max most 0) l.length e (putE x18.V x18.N) x18.N)).length) c45), (84, .bool false), (85, .pointer (some (⟨g4, 0, none⟩))), (87, .pointer (some (⟨g5, 0, none⟩)))] (by kernel_rfl) ?_
          refine takeD (i := 9) (d := (some 88)) (s := vS (Instr.loadAt 22 (.pointer (some (⟨g5, 0, none⟩))))) (v := .slice A30 ((addL l (addE (max most 0) l.length e (putE x18.V x18.N) x18.N) (enc ((x18.N).toNat) x18.V)).length) c30) (by kernel_rfl) (by kernel_rfl) (fun w' hw' => ld_run _ _ _ (by kernel_rfl) (hw'.cell (blk_cell hg34_48 rfl) (fun e => e))) ?_
          refine segD [10] [0, 2, 3, 1, 4, 5, 6, 8, 9, 10] [(1, .slice s.A s.l.length s.c), (5, .pointer (some (⟨g4, 0, none⟩))), (6, .pointer (some (⟨g5, 0, none⟩))), (7, .int .i64 (i : Int)), (8, .slice A45 ((doneL (addL l (addE (max most 0) l.length e (putE x18.V x18.N) x18.N) (enc ((x18.N).toNat) x18.V)) (addE (max most 0) l.length e (putE x18.V x18.N) x18.N)).length) c45), (84, .bool false), (85, .pointer (some (⟨g4, 0, none⟩))), (89, .int .i64 ((addL l (addE (max most 0) l.length e (putE x18.V x18.N) x18.N) (enc ((x18.N).toNat) x18.V)).length : Int))] (by kernel_rfl) ?_
          have hlt52 := own_lt hn30_48
          have hlt53 := own_lt hn40_48
          have hlt54 := own_lt hn45_48
          refine stD (i := 7) (by kernel_rfl) hS48 (callR (some 86) 36 #[.pointer (some (⟨g4, 0, none⟩))] Try.call36 (wlen_c w48 g4 A40 ((addL l (addE (max most 0) l.length e (putE x18.V x18.N) x18.N) (enc ((x18.N).toNat) x18.V)).length) c40 (max most 0) (addE (max most 0) l.length e (putE x18.V x18.N) x18.N) hg40_48) (by kernel_rfl) ?_)
          rintro _ _ ⟨rfl, rfl⟩
          refine segD [11, 12, 13] [0, 2, 3, 1, 4, 5, 6, 8, 9, 10, 7, 11, 12, 13] [(1, .slice s.A s.l.length s.c), (5, .pointer (some (⟨g4, 0, none⟩))), (6, .pointer (some (⟨g5, 0, none⟩))), (7, .int .i64 (i : Int)), (8, .slice A45 ((doneL (addL l (addE (max most 0) l.length e (putE x18.V x18.N) x18.N) (enc ((x18.N).toNat) x18.V)) (addE (max most 0) l.length e (putE x18.V x18.N) x18.N)).length) c45), (92, .bool (((addL l (addE (max most 0) l.length e (putE x18.V x18.N) x18.N) (enc ((x18.N).toNat) x18.V)).length : Int) != ((addL l (addE (max most 0) l.length e (putE x18.V x18.N) x18.N) (enc ((x18.N).toNat) x18.V)).length : Int)))] (by kernel_rfl) ?_
          rw [show (((addL l (addE (max most 0) l.length e (putE x18.V x18.N) x18.N) (enc ((x18.N).toNat) x18.V)).length : Int) != ((addL l (addE (max most 0) l.length e (putE x18.V x18.N) x18.N) (enc ((x18.N).toNat) x18.V)).length : Int)) = false from by simp]
          refine segD [14] [0, 2, 3, 1, 4, 5, 6, 8, 9, 10, 7, 11, 12, 13, 14] [(1, .slice s.A s.l.length s.c), (5, .pointer (some (⟨g4, 0, none⟩))), (6, .pointer (some (⟨g5, 0, none⟩))), (7, .int .i64 (i : Int)), (8, .slice A45 ((doneL (addL l (addE (max most 0) l.length e (putE x18.V x18.N) x18.N) (enc ((x18.N).toNat) x18.V)) (addE (max most 0) l.length e (putE x18.V x18.N) x18.N)).length) c45), (92, .bool false), (93, .pointer (some (⟨g5, 2, none⟩)))] (by kernel_rfl) ?_
          refine stD (i := 15) (by kernel_rfl) hS48 (ldR (some 94) 3 (⟨g5, 2, none⟩) (.int .i64 (addE (max most 0) l.length e (putE x18.V x18.N) x18.N)) (by kernel_rfl) (by kernel_rfl) (blk_cell hg34_48 rfl) ?_)
          refine segD [16, 17] [0, 2, 3, 1, 4, 5, 6, 8, 9, 10, 7, 11, 12, 13, 14, 15, 16, 17] [(1, .slice s.A s.l.length s.c), (5, .pointer (some (⟨g4, 0, none⟩))), (6, .pointer (some (⟨g5, 0, none⟩))), (7, .int .i64 (i : Int)), (8, .slice A45 ((doneL (addL l (addE (max most 0) l.length e (putE x18.V x18.N) x18.N) (enc ((x18.N).toNat) x18.V)) (addE (max most 0) l.length e (putE x18.V x18.N) x18.N)).length) c45), (92, .bool false), (96, .bool ((addE (max most 0) l.length e (putE x18.V x18.N) x18.N) == 0))] (by kernel_rfl) ?_
          rcases bsplit ((addE (max most 0) l.length e (putE x18.V x18.N) x18.N) == 0) with hb55 | hb55
          · rw [hb55]
            have h55 : (addE (max most 0) l.length e (putE x18.V x18.N) x18.N) = 0 := by simpa using hb55
            refine segD [18, 20] [0, 2, 3, 1, 4, 5, 6, 8, 9, 10, 7, 11, 12, 13, 14, 15, 16, 17, 18, 20] [(1, .slice s.A s.l.length s.c), (5, .pointer (some (⟨g4, 0, none⟩))), (6, .pointer (some (⟨g5, 0, none⟩))), (7, .int .i64 (i : Int)), (8, .slice A45 ((doneL (addL l (addE (max most 0) l.length e (putE x18.V x18.N) x18.N) (enc ((x18.N).toNat) x18.V)) (addE (max most 0) l.length e (putE x18.V x18.N) x18.N)).length) c45), (92, .bool false), (96, .bool true), (97, .slice A45 ((doneL (addL l (addE (max most 0) l.length e (putE x18.V x18.N) x18.N) (enc ((x18.N).toNat) x18.V)) (addE (max most 0) l.length e (putE x18.V x18.N) x18.N)).length) c45), (99, .pointer (some (⟨g5, 0, none⟩)))] (by kernel_rfl) ?_
            refine takeD (i := 19) (d := (some 98)) (s := vS (convert 22 9 (.slice A45 ((doneL (addL l (addE (max most 0) l.length e (putE x18.V x18.N) x18.N) (enc ((x18.N).toNat) x18.V)) (addE (max most 0) l.length e (putE x18.V x18.N) x18.N)).length) c45))) (v := .string (⟨(doneL (addL l (addE (max most 0) l.length e (putE x18.V x18.N) x18.N) (enc ((x18.N).toNat) x18.V)) (addE (max most 0) l.length e (putE x18.V x18.N) x18.N)).toArray⟩)) (by kernel_rfl) (by kernel_rfl) (fun w' hw' => b2s_run _ _ 5 _ _ _ _ Try.underlying22 Try.underlying5 Try.underlying9 (Cs.kp (Cs.of_own hn45_48) hw' (fun _ e => e.elim)) (by first | rfl | omega | (simp; done) | (simp; omega))) ?_
            refine stD (i := 21) (by kernel_rfl) hS48 (ldR (some 100) 22 (⟨g5, 0, none⟩) (.slice A30 ((addL l (addE (max most 0) l.length e (putE x18.V x18.N) x18.N) (enc ((x18.N).toNat) x18.V)).length) c30) (by kernel_rfl) (by kernel_rfl) (blk_cell hg34_48 rfl) ?_)
            refine stD (i := 22) (by kernel_rfl) hS48 (b2sR (some 101) 22 9 5 A30 ((addL l (addE (max most 0) l.length e (putE x18.V x18.N) x18.N) (enc ((x18.N).toNat) x18.V)).length) c30 (addL l (addE (max most 0) l.length e (putE x18.V x18.N) x18.N) (enc ((x18.N).toNat) x18.V)) Try.underlying22 Try.underlying5 Try.underlying9 (by kernel_rfl) (Cs.of_own hn30_48) (by first | rfl | omega | (simp; done) | (simp; omega)) ?_)
            refine segD [23, 24, 25, 26] [0, 2, 3, 1, 4, 5, 6, 8, 9, 10, 7, 11, 12, 13, 14, 15, 16, 17, 18, 20, 19, 21, 22, 23, 24, 25, 26] [(1, .slice s.A s.l.length s.c), (5, .pointer (some (⟨g4, 0, none⟩))), (6, .pointer (some (⟨g5, 0, none⟩))), (7, .int .i64 (i : Int)), (8, .slice A45 ((doneL (addL l (addE (max most 0) l.length e (putE x18.V x18.N) x18.N) (enc ((x18.N).toNat) x18.V)) (addE (max most 0) l.length e (putE x18.V x18.N) x18.N)).length) c45), (105, .bool (!(ByteArray.toList (⟨(doneL (addL l (addE (max most 0) l.length e (putE x18.V x18.N) x18.N) (enc ((x18.N).toNat) x18.V)) (addE (max most 0) l.length e (putE x18.V x18.N) x18.N)).toArray⟩) == ByteArray.toList (⟨(addL l (addE (max most 0) l.length e (putE x18.V x18.N) x18.N) (enc ((x18.N).toNat) x18.V)).toArray⟩))))] (by kernel_rfl) ?_
            rw [show (ByteArray.toList (⟨(doneL (addL l (addE (max most 0) l.length e (putE x18.V x18.N) x18.N) (enc ((x18.N).toNat) x18.V)) (addE (max most 0) l.length e (putE x18.V x18.N) x18.N)).toArray⟩) == ByteArray.toList (⟨(addL l (addE (max most 0) l.length e (putE x18.V x18.N) x18.N) (enc ((x18.N).toNat) x18.V)).toArray⟩)) = true from streq_t (by simp only [doneL, h55, if_true])]
            refine segD [27] [0, 2, 3, 1, 4, 5, 6, 8, 9, 10, 7, 11, 12, 13, 14, 15, 16, 17, 18, 20, 19, 21, 22, 23, 24, 25, 26, 27] [(1, .slice s.A s.l.length s.c), (5, .pointer (some (⟨g4, 0, none⟩))), (6, .pointer (some (⟨g5, 0, none⟩))), (7, .int .i64 (i : Int)), (8, .slice A45 ((doneL (addL l (addE (max most 0) l.length e (putE x18.V x18.N) x18.N) (enc ((x18.N).toNat) x18.V)) (addE (max most 0) l.length e (putE x18.V x18.N) x18.N)).length) c45), (105, .bool false), (106, .pointer (some (⟨g5, 2, none⟩)))] (by kernel_rfl) ?_
            refine stD (i := 28) (by kernel_rfl) hS48 (ldR (some 107) 3 (⟨g5, 2, none⟩) (.int .i64 (addE (max most 0) l.length e (putE x18.V x18.N) x18.N)) (by kernel_rfl) (by kernel_rfl) (blk_cell hg34_48 rfl) ?_)
            refine segD [29, 30] [0, 2, 3, 1, 4, 5, 6, 8, 9, 10, 7, 11, 12, 13, 14, 15, 16, 17, 18, 20, 19, 21, 22, 23, 24, 25, 26, 27, 28, 29, 30] [(1, .slice s.A s.l.length s.c), (5, .pointer (some (⟨g4, 0, none⟩))), (6, .pointer (some (⟨g5, 0, none⟩))), (7, .int .i64 (i : Int)), (8, .slice A45 ((doneL (addL l (addE (max most 0) l.length e (putE x18.V x18.N) x18.N) (enc ((x18.N).toNat) x18.V)) (addE (max most 0) l.length e (putE x18.V x18.N) x18.N)).length) c45), (105, .bool false), (109, .bool ((addE (max most 0) l.length e (putE x18.V x18.N) x18.N) != 0))] (by kernel_rfl) ?_
            rw [show ((addE (max most 0) l.length e (putE x18.V x18.N) x18.N) != 0) = false from beq_bne hb55]
            refine segD [31, 32, 33, 34, 35] [0, 2, 3, 1, 4, 5, 6, 8, 9, 10, 7, 11, 12, 13, 14, 15, 16, 17, 18, 20, 19, 21, 22, 23, 24, 25, 26, 27, 28, 29, 30, 31, 32, 33, 34, 35] [(1, .slice s.A s.l.length s.c), (5, .pointer (some (⟨g4, 0, none⟩))), (6, .pointer (some (⟨g5, 0, none⟩))), (7, .int .i64 (i : Int)), (8, .slice A45 ((doneL (addL l (addE (max most 0) l.length e (putE x18.V x18.N) x18.N) (enc ((x18.N).toNat) x18.V)) (addE (max most 0) l.length e (putE x18.V x18.N) x18.N)).length) c45), (114, .bool false)] (by kernel_rfl) ?_
            refine endD (by kernel_rfl) hS48 ?_
            refine seg 7 [.co [1, 1, 1, 1, 0, 1, 0, 0, 1, 0, 0, 1, 1, 1, 1, 1, 1, 0], .bl 3, .bl 1, .co [1, 1, 1, 1, 0, 1, 0, 0, 1, 1], .le 0, .bl 0, .co [1, 1, 1, 1, 1]] [(1, .slice s.A s.l.length s.c), (5, .pointer (some (⟨g4, 0, none⟩))), (6, .pointer (some (⟨g5, 0, none⟩))), (7, .int .i64 (i : Int)), (8, .slice A45 ((doneL (addL l (addE (max most 0) l.length e (putE x18.V x18.N) x18.N) (enc ((x18.N).toNat) x18.V)) (addE (max most 0) l.length e (putE x18.V x18.N) x18.N)).length) c45), (10, .int .i64 0)] (by kernel_rfl) ?_
            refine loopR 1 (fun (x : Nat × List UInt8) => [(1, .slice s.A s.l.length s.c), (5, .pointer (some (⟨g4, 0, none⟩))), (6, .pointer (some (⟨g5, 0, none⟩))), (7, .int .i64 (i : Int)), (8, .slice A45 ((doneL (addL l (addE (max most 0) l.length e (putE x18.V x18.N) x18.N) (enc ((x18.N).toNat) x18.V)) (addE (max most 0) l.length e (putE x18.V x18.N) x18.N)).length) c45), (10, .int .i64 (x.1 : Int))]) (fun (x : Nat × List UInt8) (wl56 : World) => x.1 ≤ (doneL (addL l (addE (max most 0) l.length e (putE x18.V x18.N) x18.N) (enc ((x18.N).toNat) x18.V)) (addE (max most 0) l.length e (putE x18.V x18.N) x18.N)).length ∧ x.2.length = (doneL (addL l (addE (max most 0) l.length e (putE x18.V x18.N) x18.N) (enc ((x18.N).toNat) x18.V)) (addE (max most 0) l.length e (putE x18.V x18.N) x18.N)).length ∧ Sls.Ok 0 w.heap.size wl56 s ∧ TAct.Ok 0 w.heap.size wl56 x18 ∧ wl56.ownsRow (g5 + 1) 5 1 (.slice A30 ((addL l (addE (max most 0) l.length e (putE x18.V x18.N) x18.N) (enc ((x18.N).toNat) x18.V)).length) c30) ((addL l (addE (max most 0) l.length e (putE x18.V x18.N) x18.N) (enc ((x18.N).toNat) x18.V)).length) (bs (addL l (addE (max most 0) l.length e (putE x18.V x18.N) x18.N) (enc ((x18.N).toNat) x18.V))) ∧ wl56.ownsRow (g5 + 1) 5 1 (.slice A40 ((addL l (addE (max most 0) l.length e (putE x18.V x18.N) x18.N) (enc ((x18.N).toNat) x18.V)).length) c40) ((addL l (addE (max most 0) l.length e (putE x18.V x18.N) x18.N) (enc ((x18.N).toNat) x18.V)).length) (bs (addL l (addE (max most 0) l.length e (putE x18.V x18.N) x18.N) (enc ((x18.N).toNat) x18.V))) ∧ wl56.ownsRow w40.heap.size 5 1 (.slice A45 ((doneL (addL l (addE (max most 0) l.length e (putE x18.V x18.N) x18.N) (enc ((x18.N).toNat) x18.V)) (addE (max most 0) l.length e (putE x18.V x18.N) x18.N)).length) c45) ((doneL (addL l (addE (max most 0) l.length e (putE x18.V x18.N) x18.N) (enc ((x18.N).toNat) x18.V)) (addE (max most 0) l.length e (putE x18.V x18.N) x18.N)).length) (bs x.2) ∧ wl56.heap[g4]? = some (.cells #[.slice A40 ((addL l (addE (max most 0) l.length e (putE x18.V x18.N) x18.N) (enc ((x18.N).toNat) x18.V)).length) c40, .int .i64 (max most 0), .int .i64 (addE (max most 0) l.length e (putE x18.V x18.N) x18.N)] 95 (0, 0)) ∧ wl56.heap[g5]? = some (.cells #[.slice A30 ((addL l (addE (max most 0) l.length e (putE x18.V x18.N) x18.N) (enc ((x18.N).toNat) x18.V)).length) c30, .int .i64 most, .int .i64 (addE (max most 0) l.length e (putE x18.V x18.N) x18.N)] 54 (0, 0)) ∧ Apart A40 A30 ∧ Ex w wl56) (fun (x : Nat × List UInt8) => (doneL (addL l (addE (max most 0) l.length e (putE x18.V x18.N) x18.N) (enc ((x18.N).toNat) x18.V)) (addE (max most 0) l.length e (putE x18.V x18.N) x18.N)).length - x.1) (0, (doneL (addL l (addE (max most 0) l.length e (putE x18.V x18.N) x18.N) (enc ((x18.N).toNat) x18.V)) (addE (max most 0) l.length e (putE x18.V x18.N) x18.N))) (by kernel_rfl) (by kernel_rfl) (by kernel_rfl) ?_ ?_
            · exact ⟨Nat.zero_le _, rfl, hd8_48, ox18_48, hn30_48, hn40_48, hn45_48, hg40_48, hg34_48, hap43, hF⟩
            rintro ⟨k, m⟩ wl56 ⟨hk, hm, hd57, hd58, hn59, hn60, hn61, hg62, hg63, hap64, hF⟩
            try dsimp only at hk
            try dsimp only at hm
            try dsimp only at hd57
            try dsimp only at hd58
            try dsimp only at hn59
            try dsimp only at hn60
            try dsimp only at hn61
            try dsimp only at hg62
            try dsimp only at hg63
            try dsimp only at hap64
            try dsimp only at hF
            have hzwl56 := hF.size
            have hbl65 := blk_lt hg62
            have hbl66 := blk_lt hg63
            refine seg 8 [.co [1, 1, 1, 1, 0, 1, 0, 0, 1, 0, 0, 1, 1, 1, 1, 1, 1, 0, 0, 0, 1], .co [1, 1, 1, 1, 0, 1, 0, 0, 1, 0, 0, 1, 1, 1, 1, 1, 1, 0, 0, 1], .le 1, .bl 3, .bl 1, .co [1, 1, 1, 1, 0, 1, 0, 0, 1, 1], .le 0, .bl 0, .co [1, 1, 1, 1, 1]] [(1, .slice s.A s.l.length s.c), (5, .pointer (some (⟨g4, 0, none⟩))), (6, .pointer (some (⟨g5, 0, none⟩))), (7, .int .i64 (i : Int)), (8, .slice A45 ((doneL (addL l (addE (max most 0) l.length e (putE x18.V x18.N) x18.N) (enc ((x18.N).toNat) x18.V)) (addE (max most 0) l.length e (putE x18.V x18.N) x18.N)).length) c45), (10, .int .i64 (k : Int)), (118, .bool (decide ((k : Int) < ((doneL (addL l (addE (max most 0) l.length e (putE x18.V x18.N) x18.N) (enc ((x18.N).toNat) x18.V)) (addE (max most 0) l.length e (putE x18.V x18.N) x18.N)).length : Int))))] (by kernel_rfl) ?_
            rcases bsplit (decide ((k : Int) < ((doneL (addL l (addE (max most 0) l.length e (putE x18.V x18.N) x18.N) (enc ((x18.N).toNat) x18.V)) (addE (max most 0) l.length e (putE x18.V x18.N) x18.N)).length : Int))) with hb67 | hb67
            · rw [hb67]
              have h67 := of_decide_eq_true hb67
              refine seg 7 [.op [1, 1, 1, 1, 0, 1, 0, 0, 1, 0, 0, 1, 1, 1, 1, 1, 1, 0, 0, 1, 0, 0] 2, .bl 4, .co [1, 1, 1, 1, 0, 1, 0, 0, 1, 0, 0, 1, 1, 1, 1, 1, 1, 0, 0, 1, 1], .le 1, .bl 3, .bl 1, .co [1, 1, 1, 1, 0, 1, 0, 0, 1, 1], .le 0, .bl 0, .co [1, 1, 1, 1, 1]] [(1, .slice s.A s.l.length s.c), (5, .pointer (some (⟨g4, 0, none⟩))), (6, .pointer (some (⟨g5, 0, none⟩))), (7, .int .i64 (i : Int)), (8, .slice A45 ((doneL (addL l (addE (max most 0) l.length e (putE x18.V x18.N) x18.N) (enc ((x18.N).toNat) x18.V)) (addE (max most 0) l.length e (putE x18.V x18.N) x18.N)).length) c45), (10, .int .i64 (k : Int)), (121, .slice A45 ((doneL (addL l (addE (max most 0) l.length e (putE x18.V x18.N) x18.N) (enc ((x18.N).toNat) x18.V)) (addE (max most 0) l.length e (putE x18.V x18.N) x18.N)).length) c45), (122, .int .i64 (k : Int))] (by kernel_rfl) ?_
              have u69 := UInt8.toNat_lt (m.getD k 0)
              obtain ⟨ad68, ea68, l168, l268, ca68⟩ := (Cs.of_own hn61).at2 (bs_get m k (by omega))
              refine st (idxR (some 123) 22 5 1 A45 ad68 ((doneL (addL l (addE (max most 0) l.length e (putE x18.V x18.N) x18.N) (enc ((x18.N).toNat) x18.V)) (addE (max most 0) l.length e (putE x18.V x18.N) x18.N)).length) c45 .i64 (k : Int) k ea68 (by kernel_rfl) (by kernel_rfl) (by omega) (by omega) (by omega) ?_)
              refine st (ldR (some 124) 5 (ad68.add k) (.int .u8 ((m.getD k 0).toNat : Int)) (by kernel_rfl) (by kernel_rfl) ca68 ?_)
              refine seg 1 [.op [1, 1, 1, 1, 0, 1, 0, 0, 1, 0, 0, 1, 1, 1, 1, 1, 1, 0, 0, 1, 0, 0] 5, .bl 4, .co [1, 1, 1, 1, 0, 1, 0, 0, 1, 0, 0, 1, 1, 1, 1, 1, 1, 0, 0, 1, 1], .le 1, .bl 3, .bl 1, .co [1, 1, 1, 1, 0, 1, 0, 0, 1, 1], .le 0, .bl 0, .co [1, 1, 1, 1, 1]] [(1, .slice s.A s.l.length s.c), (5, .pointer (some (⟨g4, 0, none⟩))), (6, .pointer (some (⟨g5, 0, none⟩))), (7, .int .i64 (i : Int)), (8, .slice A45 ((doneL (addL l (addE (max most 0) l.length e (putE x18.V x18.N) x18.N) (enc ((x18.N).toNat) x18.V)) (addE (max most 0) l.length e (putE x18.V x18.N) x18.N)).length) c45), (10, .int .i64 (k : Int)), (121, .slice A45 ((doneL (addL l (addE (max most 0) l.length e (putE x18.V x18.N) x18.N) (enc ((x18.N).toNat) x18.V)) (addE (max most 0) l.length e (putE x18.V x18.N) x18.N)).length) c45), (122, .int .i64 (k : Int)), (125, .int .u8 (IntKind.u8.wrap (((m.getD k 0).toNat : Int) + 1)))] (by kernel_rfl) ?_
              rw [show IntKind.u8.wrap (((m.getD k 0).toNat : Int) + 1) = ((m.getD k 0 + 1).toNat : Int) from wrap_succ _]
              have u71 := UInt8.toNat_lt (m.getD k 0)
              obtain ⟨ad70, ea70, l170, l270, ca70⟩ := (Cs.of_own hn61).at2 (bs_get m k (by omega))
              refine st (idxR (some 126) 22 5 1 A45 ad70 ((doneL (addL l (addE (max most 0) l.length e (putE x18.V x18.N) x18.N) (enc ((x18.N).toNat) x18.V)) (addE (max most 0) l.length e (putE x18.V x18.N) x18.N)).length) c45 .i64 (k : Int) k ea70 (by kernel_rfl) (by kernel_rfl) (by omega) (by omega) (by omega) ?_)
              have hlt73 := own_lt hn59
              have hlt74 := own_lt hn60
              refine st (stOwnR none 5 w40.heap.size 5 1 A45 ((doneL (addL l (addE (max most 0) l.length e (putE x18.V x18.N) x18.N) (enc ((x18.N).toNat) x18.V)) (addE (max most 0) l.length e (putE x18.V x18.N) x18.N)).length) c45 (bs m) ad70 k (.int .u8 ((m.getD k 0 + 1).toNat : Int)) (by kernel_rfl) (by kernel_rfl) rfl hn61 ea70 (by first | (rw [bs_length]; omega) | (simp; omega)) ?_)
              intro w72 hn72 hx72 hz72
              replace hn59 := own_kp hn59 hx72 (fun k hk e => by have h1 := own_ge hn59 hk.symm; first | (have h2 := own_ge hn61 e; omega) | (have h2 := own_ge hn61 e; have h3 := hlt42 k hk.symm; omega) | (have h2 := own_ge hn61 e; have h3 := hlt46 k hk.symm; omega) | (have h2 := own_ge hn61 e; have h3 := hlt49 k hk.symm; omega) | (have h2 := own_ge hn61 e; have h3 := hlt52 k hk.symm; omega) | (have h2 := own_ge hn61 e; have h3 := hlt73 k hk.symm; omega) | (have h2 := hlt51 k e; omega) | (have h2 := hlt54 k e; omega))
              replace hn60 := own_kp hn60 hx72 (fun k hk e => by have h1 := own_ge hn60 hk.symm; first | (have h2 := own_ge hn61 e; omega) | (have h2 := own_ge hn61 e; have h3 := hlt47 k hk.symm; omega) | (have h2 := own_ge hn61 e; have h3 := hlt50 k hk.symm; omega) | (have h2 := own_ge hn61 e; have h3 := hlt53 k hk.symm; omega) | (have h2 := own_ge hn61 e; have h3 := hlt74 k hk.symm; omega) | (have h2 := hlt51 k e; omega) | (have h2 := hlt54 k e; omega))
              replace hd57 : Sls.Ok _ _ _ s := Dat.kp (a := s) hd57 hx72 (fun k hk => by first | exact .inr (by have := own_ge hn61 hk; omega) | exact .inl (by have := hlt51 k hk; omega) | exact .inl (by have := hlt54 k hk; omega))
              replace hd58 : TAct.Ok _ _ _ x18 := Dat.kp (a := x18) hd58 hx72 (fun k hk => by first | exact .inr (by have := own_ge hn61 hk; omega) | exact .inl (by have := hlt51 k hk; omega) | exact .inl (by have := hlt54 k hk; omega))
              replace hg62 := hx72.blk hg62 (fun e => by have := own_ge hn61 e; omega)
              replace hg63 := hx72.blk hg63 (fun e => by have := own_ge hn61 e; omega)
              replace hF := hF.step hx72 (fun k hk hlt => absurd (own_ge hn61 hk) (by omega))
              rw [bs_set] at hn72
              refine seg 7 [.le 1, .bl 3, .bl 1, .co [1, 1, 1, 1, 0, 1, 0, 0, 1, 1], .le 0, .bl 0, .co [1, 1, 1, 1, 1]] [(1, .slice s.A s.l.length s.c), (5, .pointer (some (⟨g4, 0, none⟩))), (6, .pointer (some (⟨g5, 0, none⟩))), (7, .int .i64 (i : Int)), (8, .slice A45 ((doneL (addL l (addE (max most 0) l.length e (putE x18.V x18.N) x18.N) (enc ((x18.N).toNat) x18.V)) (addE (max most 0) l.length e (putE x18.V x18.N) x18.N)).length) c45), (10, .int .i64 (IntKind.i64.wrap ((k : Int) + 1)))] (by kernel_rfl) ?_
              rw [show IntKind.i64.wrap ((k : Int) + 1) = ((k : Int) + 1) from w64 (by omega)]
              refine leR (k + 1, (m.set k (m.getD k 0 + 1))) (by dsimp only; omega) ⟨by dsimp only; omega, by dsimp only; rw [List.length_set]; exact hm, hd57, hd58, hn59, hn60, hn72, hg62, hg63, hap64, hF⟩ (by kernel_rfl)
            · rw [hb67]
              have h67 := of_decide_eq_false hb67
              refine seg 8 [.le 0, .bl 0, .co [1, 1, 1, 1, 1]] [(1, .slice s.A s.l.length s.c), (5, .pointer (some (⟨g4, 0, none⟩))), (6, .pointer (some (⟨g5, 0, none⟩))), (7, .int .i64 (IntKind.i64.wrap ((i : Int) + 1)))] (by kernel_rfl) ?_
              rw [show IntKind.i64.wrap ((i : Int) + 1) = ((i : Int) + 1) from w64 (by omega)]
              refine leR_up (k' := []) (by rfl) ?_
              refine leR (i + 1, (addL l (addE (max most 0) l.length e (putE x18.V x18.N) x18.N) (enc ((x18.N).toNat) x18.V)), (addE (max most 0) l.length e (putE x18.V x18.N) x18.N), A40, c40, A30, c30) (by dsimp only; omega) ⟨by dsimp only; omega, by dsimp only; omega, hd57, hn60, hn59, hg62, hg63, hap64, hF⟩ (by kernel_rfl)
          · rw [hb55]
            have h55 : (addE (max most 0) l.length e (putE x18.V x18.N) x18.N) ≠ 0 := by simpa using hb55
            refine segD [18, 19, 20, 21, 22, 23, 24, 25, 26, 27] [0, 2, 3, 1, 4, 5, 6, 8, 9, 10, 7, 11, 12, 13, 14, 15, 16, 17, 18, 19, 20, 21, 22, 23, 24, 25, 26, 27] [(1, .slice s.A s.l.length s.c), (5, .pointer (some (⟨g4, 0, none⟩))), (6, .pointer (some (⟨g5, 0, none⟩))), (7, .int .i64 (i : Int)), (8, .slice A45 ((doneL (addL l (addE (max most 0) l.length e (putE x18.V x18.N) x18.N) (enc ((x18.N).toNat) x18.V)) (addE (max most 0) l.length e (putE x18.V x18.N) x18.N)).length) c45), (105, .bool false), (106, .pointer (some (⟨g5, 2, none⟩)))] (by kernel_rfl) ?_
            refine stD (i := 28) (by kernel_rfl) hS48 (ldR (some 107) 3 (⟨g5, 2, none⟩) (.int .i64 (addE (max most 0) l.length e (putE x18.V x18.N) x18.N)) (by kernel_rfl) (by kernel_rfl) (blk_cell hg34_48 rfl) ?_)
            refine segD [29, 30] [0, 2, 3, 1, 4, 5, 6, 8, 9, 10, 7, 11, 12, 13, 14, 15, 16, 17, 18, 19, 20, 21, 22, 23, 24, 25, 26, 27, 28, 29, 30] [(1, .slice s.A s.l.length s.c), (5, .pointer (some (⟨g4, 0, none⟩))), (6, .pointer (some (⟨g5, 0, none⟩))), (7, .int .i64 (i : Int)), (8, .slice A45 ((doneL (addL l (addE (max most 0) l.length e (putE x18.V x18.N) x18.N) (enc ((x18.N).toNat) x18.V)) (addE (max most 0) l.length e (putE x18.V x18.N) x18.N)).length) c45), (105, .bool false), (109, .bool ((addE (max most 0) l.length e (putE x18.V x18.N) x18.N) != 0))] (by kernel_rfl) ?_
            rw [show ((addE (max most 0) l.length e (putE x18.V x18.N) x18.N) != 0) = true from beq_bne hb55]
            refine segD [31, 32, 33, 34, 35] [0, 2, 3, 1, 4, 5, 6, 8, 9, 10, 7, 11, 12, 13, 14, 15, 16, 17, 18, 19, 20, 21, 22, 23, 24, 25, 26, 27, 28, 29, 30, 31, 32, 33, 34, 35] [(1, .slice s.A s.l.length s.c), (5, .pointer (some (⟨g4, 0, none⟩))), (6, .pointer (some (⟨g5, 0, none⟩))), (7, .int .i64 (i : Int)), (8, .slice A45 ((doneL (addL l (addE (max most 0) l.length e (putE x18.V x18.N) x18.N) (enc ((x18.N).toNat) x18.V)) (addE (max most 0) l.length e (putE x18.V x18.N) x18.N)).length) c45), (114, .bool (((doneL (addL l (addE (max most 0) l.length e (putE x18.V x18.N) x18.N) (enc ((x18.N).toNat) x18.V)) (addE (max most 0) l.length e (putE x18.V x18.N) x18.N)).length : Int) != 0))] (by kernel_rfl) ?_
            refine endD (by kernel_rfl) hS48 ?_
            rw [show (((doneL (addL l (addE (max most 0) l.length e (putE x18.V x18.N) x18.N) (enc ((x18.N).toNat) x18.V)) (addE (max most 0) l.length e (putE x18.V x18.N) x18.N)).length : Int) != 0) = false from by simp only [doneL, h55, if_false]; rfl]
            refine seg 7 [.co [1, 1, 1, 1, 0, 1, 0, 0, 1, 0, 0, 1, 1, 1, 1, 1, 1, 0], .bl 3, .bl 1, .co [1, 1, 1, 1, 0, 1, 0, 0, 1, 1], .le 0, .bl 0, .co [1, 1, 1, 1, 1]] [(1, .slice s.A s.l.length s.c), (5, .pointer (some (⟨g4, 0, none⟩))), (6, .pointer (some (⟨g5, 0, none⟩))), (7, .int .i64 (i : Int)), (8, .slice A45 ((doneL (addL l (addE (max most 0) l.length e (putE x18.V x18.N) x18.N) (enc ((x18.N).toNat) x18.V)) (addE (max most 0) l.length e (putE x18.V x18.N) x18.N)).length) c45), (10, .int .i64 0)] (by kernel_rfl) ?_
            refine loopR 1 (fun (x : Nat × List UInt8) => [(1, .slice s.A s.l.length s.c), (5, .pointer (some (⟨g4, 0, none⟩))), (6, .pointer (some (⟨g5, 0, none⟩))), (7, .int .i64 (i : Int)), (8, .slice A45 ((doneL (addL l (addE (max most 0) l.length e (putE x18.V x18.N) x18.N) (enc ((x18.N).toNat) x18.V)) (addE (max most 0) l.length e (putE x18.V x18.N) x18.N)).length) c45), (10, .int .i64 (x.1 : Int))]) (fun (x : Nat × List UInt8) (wl75 : World) => x.1 ≤ (doneL (addL l (addE (max most 0) l.length e (putE x18.V x18.N) x18.N) (enc ((x18.N).toNat) x18.V)) (addE (max most 0) l.length e (putE x18.V x18.N) x18.N)).length ∧ x.2.length = (doneL (addL l (addE (max most 0) l.length e (putE x18.V x18.N) x18.N) (enc ((x18.N).toNat) x18.V)) (addE (max most 0) l.length e (putE x18.V x18.N) x18.N)).length ∧ Sls.Ok 0 w.heap.size wl75 s ∧ TAct.Ok 0 w.heap.size wl75 x18 ∧ wl75.ownsRow (g5 + 1) 5 1 (.slice A30 ((addL l (addE (max most 0) l.length e (putE x18.V x18.N) x18.N) (enc ((x18.N).toNat) x18.V)).length) c30) ((addL l (addE (max most 0) l.length e (putE x18.V x18.N) x18.N) (enc ((x18.N).toNat) x18.V)).length) (bs (addL l (addE (max most 0) l.length e (putE x18.V x18.N) x18.N) (enc ((x18.N).toNat) x18.V))) ∧ wl75.ownsRow (g5 + 1) 5 1 (.slice A40 ((addL l (addE (max most 0) l.length e (putE x18.V x18.N) x18.N) (enc ((x18.N).toNat) x18.V)).length) c40) ((addL l (addE (max most 0) l.length e (putE x18.V x18.N) x18.N) (enc ((x18.N).toNat) x18.V)).length) (bs (addL l (addE (max most 0) l.length e (putE x18.V x18.N) x18.N) (enc ((x18.N).toNat) x18.V))) ∧ wl75.ownsRow w40.heap.size 5 1 (.slice A45 ((doneL (addL l (addE (max most 0) l.length e (putE x18.V x18.N) x18.N) (enc ((x18.N).toNat) x18.V)) (addE (max most 0) l.length e (putE x18.V x18.N) x18.N)).length) c45) ((doneL (addL l (addE (max most 0) l.length e (putE x18.V x18.N) x18.N) (enc ((x18.N).toNat) x18.V)) (addE (max most 0) l.length e (putE x18.V x18.N) x18.N)).length) (bs x.2) ∧ wl75.heap[g4]? = some (.cells #[.slice A40 ((addL l (addE (max most 0) l.length e (putE x18.V x18.N) x18.N) (enc ((x18.N).toNat) x18.V)).length) c40, .int .i64 (max most 0), .int .i64 (addE (max most 0) l.length e (putE x18.V x18.N) x18.N)] 95 (0, 0)) ∧ wl75.heap[g5]? = some (.cells #[.slice A30 ((addL l (addE (max most 0) l.length e (putE x18.V x18.N) x18.N) (enc ((x18.N).toNat) x18.V)).length) c30, .int .i64 most, .int .i64 (addE (max most 0) l.length e (putE x18.V x18.N) x18.N)] 54 (0, 0)) ∧ Apart A40 A30 ∧ Ex w wl75) (fun (x : Nat × List UInt8) => (doneL (addL l (addE (max most 0) l.length e (putE x18.V x18.N) x18.N) (enc ((x18.N).toNat) x18.V)) (addE (max most 0) l.length e (putE x18.V x18.N) x18.N)).length - x.1) (0, (doneL (addL l (addE (max most 0) l.length e (putE x18.V x18.N) x18.N) (enc ((x18.N).toNat) x18.V)) (addE (max most 0) l.length e (putE x18.V x18.N) x18.N))) (by kernel_rfl) (by kernel_rfl) (by kernel_rfl) ?_ ?_
            · exact ⟨Nat.zero_le _, rfl, hd8_48, ox18_48, hn30_48, hn40_48, hn45_48, hg40_48, hg34_48, hap43, hF⟩
            rintro ⟨k, m⟩ wl75 ⟨hk, hm, hd76, hd77, hn78, hn79, hn80, hg81, hg82, hap83, hF⟩
            try dsimp only at hk
            try dsimp only at hm
            try dsimp only at hd76
            try dsimp only at hd77
            try dsimp only at hn78
            try dsimp only at hn79
            try dsimp only at hn80
            try dsimp only at hg81
            try dsimp only at hg82
            try dsimp only at hap83
            try dsimp only at hF
            have hzwl75 := hF.size
            have hbl84 := blk_lt hg81
            have hbl85 := blk_lt hg82
            refine seg 8 [.co [1, 1, 1, 1, 0, 1, 0, 0, 1, 0, 0, 1, 1, 1, 1, 1, 1, 0, 0, 0, 1], .co [1, 1, 1, 1, 0, 1, 0, 0, 1, 0, 0, 1, 1, 1, 1, 1, 1, 0, 0, 1], .le 1, .bl 3, .bl 1, .co [1, 1, 1, 1, 0, 1, 0, 0, 1, 1], .le 0, .bl 0, .co [1, 1, 1, 1, 1]] [(1, .slice s.A s.l.length s.c), (5, .pointer (some (⟨g4, 0, none⟩))), (6, .pointer (some (⟨g5, 0, none⟩))), (7, .int .i64 (i : Int)), (8, .slice A45 ((doneL (addL l (addE (max most 0) l.length e (putE x18.V x18.N) x18.N) (enc ((x18.N).toNat) x18.V)) (addE (max most 0) l.length e (putE x18.V x18.N) x18.N)).length) c45), (10, .int .i64 (k : Int)), (118, .bool (decide ((k : Int) < ((doneL (addL l (addE (max most 0) l.length e (putE x18.V x18.N) x18.N) (enc ((x18.N).toNat) x18.V)) (addE (max most 0) l.length e (putE x18.V x18.N) x18.N)).length : Int))))] (by kernel_rfl) ?_
            rcases bsplit (decide ((k : Int) < ((doneL (addL l (addE (max most 0) l.length e (putE x18.V x18.N) x18.N) (enc ((x18.N).toNat) x18.V)) (addE (max most 0) l.length e (putE x18.V x18.N) x18.N)).length : Int))) with hb86 | hb86
            · rw [hb86]
              have h86 := of_decide_eq_true hb86
              refine seg 7 [.op [1, 1, 1, 1, 0, 1, 0, 0, 1, 0, 0, 1, 1, 1, 1, 1, 1, 0, 0, 1, 0, 0] 2, .bl 4, .co [1, 1, 1, 1, 0, 1, 0, 0, 1, 0, 0, 1, 1, 1, 1, 1, 1, 0, 0, 1, 1], .le 1, .bl 3, .bl 1, .co [1, 1, 1, 1, 0, 1, 0, 0, 1, 1], .le 0, .bl 0, .co [1, 1, 1, 1, 1]] [(1, .slice s.A s.l.length s.c), (5, .pointer (some (⟨g4, 0, none⟩))), (6, .pointer (some (⟨g5, 0, none⟩))), (7, .int .i64 (i : Int)), (8, .slice A45 ((doneL (addL l (addE (max most 0) l.length e (putE x18.V x18.N) x18.N) (enc ((x18.N).toNat) x18.V)) (addE (max most 0) l.length e (putE x18.V x18.N) x18.N)).length) c45), (10, .int .i64 (k : Int)), (121, .slice A45 ((doneL (addL l (addE (max most 0) l.length e (putE x18.V x18.N) x18.N) (enc ((x18.N).toNat) x18.V)) (addE (max most 0) l.length e (putE x18.V x18.N) x18.N)).length) c45), (122, .int .i64 (k : Int))] (by kernel_rfl) ?_
              have u88 := UInt8.toNat_lt (m.getD k 0)
              obtain ⟨ad87, ea87, l187, l287, ca87⟩ := (Cs.of_own hn80).at2 (bs_get m k (by omega))
              refine st (idxR (some 123) 22 5 1 A45 ad87 ((doneL (addL l (addE (max most 0) l.length e (putE x18.V x18.N) x18.N) (enc ((x18.N).toNat) x18.V)) (addE (max most 0) l.length e (putE x18.V x18.N) x18.N)).length) c45 .i64 (k : Int) k ea87 (by kernel_rfl) (by kernel_rfl) (by omega) (by omega) (by omega) ?_)
              refine st (ldR (some 124) 5 (ad87.add k) (.int .u8 ((m.getD k 0).toNat : Int)) (by kernel_rfl) (by kernel_rfl) ca87 ?_)
              refine seg 1 [.op [1, 1, 1, 1, 0, 1, 0, 0, 1, 0, 0, 1, 1, 1, 1, 1, 1, 0, 0, 1, 0, 0] 5, .bl 4, .co [1, 1, 1, 1, 0, 1, 0, 0, 1, 0, 0, 1, 1, 1, 1, 1, 1, 0, 0, 1, 1], .le 1, .bl 3, .bl 1, .co [1, 1, 1, 1, 0, 1, 0, 0, 1, 1], .le 0, .bl 0, .co [1, 1, 1, 1, 1]] [(1, .slice s.A s.l.length s.c), (5, .pointer (some (⟨g4, 0, none⟩))), (6, .pointer (some (⟨g5, 0, none⟩))), (7, .int .i64 (i : Int)), (8, .slice A45 ((doneL (addL l (addE (max most 0) l.length e (putE x18.V x18.N) x18.N) (enc ((x18.N).toNat) x18.V)) (addE (max most 0) l.length e (putE x18.V x18.N) x18.N)).length) c45), (10, .int .i64 (k : Int)), (121, .slice A45 ((doneL (addL l (addE (max most 0) l.length e (putE x18.V x18.N) x18.N) (enc ((x18.N).toNat) x18.V)) (addE (max most 0) l.length e (putE x18.V x18.N) x18.N)).length) c45), (122, .int .i64 (k : Int)), (125, .int .u8 (IntKind.u8.wrap (((m.getD k 0).toNat : Int) + 1)))] (by kernel_rfl) ?_
              rw [show IntKind.u8.wrap (((m.getD k 0).toNat : Int) + 1) = ((m.getD k 0 + 1).toNat : Int) from wrap_succ _]
              have u90 := UInt8.toNat_lt (m.getD k 0)
              obtain ⟨ad89, ea89, l189, l289, ca89⟩ := (Cs.of_own hn80).at2 (bs_get m k (by omega))
              refine st (idxR (some 126) 22 5 1 A45 ad89 ((doneL (addL l (addE (max most 0) l.length e (putE x18.V x18.N) x18.N) (enc ((x18.N).toNat) x18.V)) (addE (max most 0) l.length e (putE x18.V x18.N) x18.N)).length) c45 .i64 (k : Int) k ea89 (by kernel_rfl) (by kernel_rfl) (by omega) (by omega) (by omega) ?_)
              have hlt92 := own_lt hn78
              have hlt93 := own_lt hn79
              refine st (stOwnR none 5 w40.heap.size 5 1 A45 ((doneL (addL l (addE (max most 0) l.length e (putE x18.V x18.N) x18.N) (enc ((x18.N).toNat) x18.V)) (addE (max most 0) l.length e (putE x18.V x18.N) x18.N)).length) c45 (bs m) ad89 k (.int .u8 ((m.getD k 0 + 1).toNat : Int)) (by kernel_rfl) (by kernel_rfl) rfl hn80 ea89 (by first | (rw [bs_length]; omega) | (simp; omega)) ?_)
              intro w91 hn91 hx91 hz91
              replace hn78 := own_kp hn78 hx91 (fun k hk e => by have h1 := own_ge hn78 hk.symm; first | (have h2 := own_ge hn80 e; omega) | (have h2 := own_ge hn80 e; have h3 := hlt42 k hk.symm; omega) | (have h2 := own_ge hn80 e; have h3 := hlt46 k hk.symm; omega) | (have h2 := own_ge hn80 e; have h3 := hlt49 k hk.symm; omega) | (have h2 := own_ge hn80 e; have h3 := hlt52 k hk.symm; omega) | (have h2 := own_ge hn80 e; have h3 := hlt92 k hk.symm; omega) | (have h2 := hlt51 k e; omega) | (have h2 := hlt54 k e; omega))
              replace hn79 := own_kp hn79 hx91 (fun k hk e => by have h1 := own_ge hn79 hk.symm; first | (have h2 := own_ge hn80 e; omega) | (have h2 := own_ge hn80 e; have h3 := hlt47 k hk.symm; omega) | (have h2 := own_ge hn80 e; have h3 := hlt50 k hk.symm; omega) | (have h2 := own_ge hn80 e; have h3 := hlt53 k hk.symm; omega) | (have h2 := own_ge hn80 e; have h3 := hlt93 k hk.symm; omega) | (have h2 := hlt51 k e; omega) | (have h2 := hlt54 k e; omega))
              replace hd76 : Sls.Ok _ _ _ s := Dat.kp (a := s) hd76 hx91 (fun k hk => by first | exact .inr (by have := own_ge hn80 hk; omega) | exact .inl (by have := hlt51 k hk; omega) | exact .inl (by have := hlt54 k hk; omega))
              replace hd77 : TAct.Ok _ _ _ x18 := Dat.kp (a := x18) hd77 hx91 (fun k hk => by first | exact .inr (by have := own_ge hn80 hk; omega) | exact .inl (by have := hlt51 k hk; omega) | exact .inl (by have := hlt54 k hk; omega))
              replace hg81 := hx91.blk hg81 (fun e => by have := own_ge hn80 e; omega)
              replace hg82 := hx91.blk hg82 (fun e => by have := own_ge hn80 e; omega)
              replace hF := hF.step hx91 (fun k hk hlt => absurd (own_ge hn80 hk) (by omega))
              rw [bs_set] at hn91
              refine seg 7 [.le 1, .bl 3, .bl 1, .co [1, 1, 1, 1, 0, 1, 0, 0, 1, 1], .le 0, .bl 0, .co [1, 1, 1, 1, 1]] [(1, .slice s.A s.l.length s.c), (5, .pointer (some (⟨g4, 0, none⟩))), (6, .pointer (some (⟨g5, 0, none⟩))), (7, .int .i64 (i : Int)), (8, .slice A45 ((doneL (addL l (addE (max most 0) l.length e (putE x18.V x18.N) x18.N) (enc ((x18.N).toNat) x18.V)) (addE (max most 0) l.length e (putE x18.V x18.N) x18.N)).length) c45), (10, .int .i64 (IntKind.i64.wrap ((k : Int) + 1)))] (by kernel_rfl) ?_
              rw [show IntKind.i64.wrap ((k : Int) + 1) = ((k : Int) + 1) from w64 (by omega)]
              refine leR (k + 1, (m.set k (m.getD k 0 + 1))) (by dsimp only; omega) ⟨by dsimp only; omega, by dsimp only; rw [List.length_set]; exact hm, hd76, hd77, hn78, hn79, hn91, hg81, hg82, hap83, hF⟩ (by kernel_rfl)
            · rw [hb86]
              have h86 := of_decide_eq_false hb86
              refine seg 8 [.le 0, .bl 0, .co [1, 1, 1, 1, 1]] [(1, .slice s.A s.l.length s.c), (5, .pointer (some (⟨g4, 0, none⟩))), (6, .pointer (some (⟨g5, 0, none⟩))), (7, .int .i64 (IntKind.i64.wrap ((i : Int) + 1)))] (by kernel_rfl) ?_
              rw [show IntKind.i64.wrap ((i : Int) + 1) = ((i : Int) + 1) from w64 (by omega)]
              refine leR_up (k' := []) (by rfl) ?_
              refine leR (i + 1, (addL l (addE (max most 0) l.length e (putE x18.V x18.N) x18.N) (enc ((x18.N).toNat) x18.V)), (addE (max most 0) l.length e (putE x18.V x18.N) x18.N), A40, c40, A30, c30) (by dsimp only; omega) ⟨by dsimp only; omega, by dsimp only; omega, hd76, hn79, hn78, hg81, hg82, hap83, hF⟩ (by kernel_rfl)
        · rw [hb36]
          have h36 : x18.Do ≠ 0 := by simpa using hb36
          refine seg 6 [.co [1, 1, 1, 1, 0, 1, 0, 0, 1, 0, 0, 1, 1, 0, 1, 0, 1, 1, 1], .bl 2, .co [1, 1, 1, 1, 0, 1, 0, 0, 1, 0, 0, 1, 1, 1], .bl 1, .co [1, 1, 1, 1, 0, 1, 0, 0, 1, 1], .le 0, .bl 0, .co [1, 1, 1, 1, 1]] [(1, .slice s.A s.l.length s.c), (5, .pointer (some (⟨g4, 0, none⟩))), (6, .pointer (some (⟨g5, 0, none⟩))), (7, .int .i64 (i : Int)), (65, .bool (x18.Do == 1))] (by kernel_rfl) ?_
          rcases bsplit (x18.Do == 1) with hb94 | hb94
          · rw [hb94]
            have h94 : x18.Do = 1 := by simpa using hb94
            refine seg 5 [.op [1, 1, 1, 1, 0, 1, 0, 0, 1, 0, 0, 1, 1, 0, 1, 0, 1, 1, 1, 0] 3, .bl 2, .co [1, 1, 1, 1, 0, 1, 0, 0, 1, 0, 0, 1, 1, 1], .bl 1, .co [1, 1, 1, 1, 0, 1, 0, 0, 1, 1], .le 0, .bl 0, .co [1, 1, 1, 1, 1]] [(1, .slice s.A s.l.length s.c), (5, .pointer (some (⟨g4, 0, none⟩))), (6, .pointer (some (⟨g5, 0, none⟩))), (7, .int .i64 (i : Int)), (67, .pointer (some (⟨g4, 0, none⟩))), (68, .slice s.A s.l.length s.c), (69, .int .i64 (i : Int))] (by kernel_rfl) ?_
            obtain ⟨ad95, ea95, l195, l295, ca95⟩ := Cs.row (Sls.Ok.cs hd8_34) (n := 4) rfl (by decide) hx18
            refine st (idxR (some 70) 50 56 4 s.A ad95 s.l.length s.c .i64 (i : Int) (i * 4) ea95 (by kernel_rfl) (by kernel_rfl) (by omega) (by omega) (by omega) ?_)
            refine seg 1 [.op [1, 1, 1, 1, 0, 1, 0, 0, 1, 0, 0, 1, 1, 0, 1, 0, 1, 1, 1, 0] 5, .bl 2, .co [1, 1, 1, 1, 0, 1, 0, 0, 1, 0, 0, 1, 1, 1], .bl 1, .co [1, 1, 1, 1, 0, 1, 0, 0, 1, 1], .le 0, .bl 0, .co [1, 1, 1, 1, 1]] [(1, .slice s.A s.l.length s.c), (5, .pointer (some (⟨g4, 0, none⟩))), (6, .pointer (some (⟨g5, 0, none⟩))), (7, .int .i64 (i : Int)), (67, .pointer (some (⟨g4, 0, none⟩))), (71, .pointer (some ((ad95.add (i * 4)).add 3)))] (by kernel_rfl) ?_
            refine st (ldR (some 72) 22 ((ad95.add (i * 4)).add 3) (.slice x18.B.A x18.B.l.length x18.B.c) (by kernel_rfl) (by kernel_rfl) (ca95 3 _ rfl) ?_)
            rw [show actX x18.Do x18.N x18.V x18.B.l = x18.B.l from by simp [actX, h36, h94]] at hn30_34 hg34
            rw [show actE1 x18.Do x18.N x18.V x18.B.l = 0 from by simp [actE1, h36, h94]] at hn30_34 hg34
            rw [show actM x18.Do x18.N x18.B.l = x18.B.l.length from by simp [actM, h36, h94]] at hn30_34 hg34
            have hlx97 : (x18.B.l).length = x18.B.l.length := (by first | rfl | omega | (simp; omega))
            have hll96 : (l).length = l.length := (by first | rfl | omega | (simp; omega))
            have hlt98 := own_lt hn9_34
            have hlt99 := own_lt hn30_34
            refine st (callR (some 73) 33 #[.pointer (some (⟨g4, 0, none⟩)), .slice x18.B.A x18.B.l.length x18.B.c] Try.call33 (wbytes_c w34 g4 (g5 + 1) l.length c1 A1 (max most 0) e hg11_34 hn9_34 (by omega) (by omega) (by omega) x18.B.A x18.B.l.length x18.B.c (Sls.Ok.bcs ox18_34.B) hlx97 (by omega) (by omega)) (by kernel_rfl) ?_)
            rintro _ w96 ⟨A96, c96, rfl, hg96, hn96, hW96⟩
            have hz96 := hW96.kp.size
            have hc96 := own_cap hn96
            replace hn30_34 := own_kp hn30_34 hW96.kp (fun k hk e => by have h1 := own_ge hn30_34 hk.symm; rcases e with e | e <;> first | omega | cases e | (have h2 := own_ge hn9_34 e; omega) | (have h2 := own_ge hn9_34 e; have h3 := hlt99 k hk.symm; omega) | (have h2 := hlt31 k e; omega) | (have h2 := hlt98 k e; omega) | exact absurd hk.symm (hap33 _ _ _ _ k e))
            replace hd8_34 : Sls.Ok _ _ _ s := Dat.kp (a := s) hd8_34 hW96.kp (fun k hk => by rcases hk with hk | hk <;> first | omega | exact .inr (by have := own_ge hn9_34 hk; omega) | cases hk | exact .inl (by have := hlt31 k hk; omega) | exact .inl (by have := hlt98 k hk; omega))
            replace ox18_34 : TAct.Ok _ _ _ x18 := Dat.kp (a := x18) ox18_34 hW96.kp (fun k hk => by rcases hk with hk | hk <;> first | omega | exact .inr (by have := own_ge hn9_34 hk; omega) | cases hk | exact .inl (by have := hlt31 k hk; omega) | exact .inl (by have := hlt98 k hk; omega))
            replace hg34 := hW96.kp.blk hg34 (fun e => by rcases e with e | e <;> first | omega | cases e | (have := own_ge hn9_34 e; omega) | (have := hlt31 _ e; omega) | (have := hlt98 _ e; omega))
            replace hF := hF.step hW96.kp (fun k hk hlt => (by rcases hk with hk | hk <;> first | omega | cases hk | (have := own_ge hn9_34 hk; omega)))
            have hap100 := (Apart.to_r hap33.symm hlt99 hW96.at_).symm
            have hlen := addL_len l (addE (max most 0) l.length e 0 x18.B.l.length) x18.B.l
            refine seg 5 [.op [1, 1, 1, 1, 0, 1, 0, 0, 1, 0, 0, 1, 1, 1, 0] 1, .co [1, 1, 1, 1, 0, 1, 0, 0, 1, 0, 0, 1, 1, 1, 1], .bl 1, .co [1, 1, 1, 1, 0, 1, 0, 0, 1, 1], .le 0, .bl 0, .co [1, 1, 1, 1, 1]] [(1, .slice s.A s.l.length s.c), (5, .pointer (some (⟨g4, 0, none⟩))), (6, .pointer (some (⟨g5, 0, none⟩))), (7, .int .i64 (i : Int)), (75, .pointer (some (⟨g4, 0, none⟩)))] (by kernel_rfl) ?_
            have hll101 : ((addL l (addE (max most 0) l.length e 0 x18.B.l.length) x18.B.l)).length = (addL l (addE (max most 0) l.length e 0 x18.B.l.length) x18.B.l).length := (by first | rfl | omega | (simp; omega))
            have hlt103 := own_lt hn30_34
            have hlt104 := own_lt hn96
            refine st (callR (some 76) 35 #[.pointer (some (⟨g4, 0, none⟩))] Try.call35 (wdone_c w96 g4 A96 ((addL l (addE (max most 0) l.length e 0 x18.B.l.length) x18.B.l).length) c96 (max most 0) (addE (max most 0) l.length e 0 x18.B.l.length) hg96 (Cs.of_own hn96) hll101 (by omega)) (by kernel_rfl) ?_)
            rintro _ w102 ⟨A102, c102, rfl, hx102, hn102⟩
            have hz102 := hx102.size
            have hc102 := own_cap hn102
            replace hn30_34 := own_ex hn30_34 hx102
            replace hn96 := own_ex hn96 hx102
            replace hd8_34 : Sls.Ok _ _ _ s := Dat.kp (a := s) hd8_34 hx102 (fun _ e => e.elim)
            replace ox18_34 : TAct.Ok _ _ _ x18 := Dat.kp (a := x18) ox18_34 hx102 (fun _ e => e.elim)
            replace hg96 := hx102.blk hg96 (fun e => e)
            replace hg34 := hx102.blk hg34 (fun e => e)
            replace hF := hF.ex hx102
            refine seg 8 [.co [1, 1, 1, 1, 0, 1, 0, 0, 1, 0, 0, 1, 1, 1, 1, 0, 0], .co [1, 1, 1, 1, 0, 1, 0, 0, 1, 0, 0, 1, 1, 1, 1, 0, 1], .co [1, 1, 1, 1, 0, 1, 0, 0, 1, 0, 0, 1, 1, 1, 1, 1], .bl 1, .co [1, 1, 1, 1, 0, 1, 0, 0, 1, 1], .le 0, .bl 0, .co [1, 1, 1, 1, 1]] [(1, .slice s.A s.l.length s.c), (5, .pointer (some (⟨g4, 0, none⟩))), (6, .pointer (some (⟨g5, 0, none⟩))), (7, .int .i64 (i : Int)), (8, .slice A102 ((doneL (addL l (addE (max most 0) l.length e 0 x18.B.l.length) x18.B.l) (addE (max most 0) l.length e 0 x18.B.l.length)).length) c102), (9, .int .i64 (addE (max most 0) l.length e 0 x18.B.l.length))] (by kernel_rfl) ?_
            refine drawT (fun _ => False) (by kernel_rfl) (by kernel_rfl) ?_
            intro w105 hx105 hz105
            have hn30_105 := hn30_34
            have hn96_105 := hn96
            have hn102_105 := hn102
            have hg96_105 := hg96
            have hg34_105 := hg34
            have hd8_105 := hd8_34
            have ox18_105 := ox18_34
            replace hn30_105 := own_ex hn30_105 hx105
            replace hn96_105 := own_ex hn96_105 hx105
            replace hn102_105 := own_ex hn102_105 hx105
            replace hd8_105 : Sls.Ok _ _ _ s := Dat.kp (a := s) hd8_105 hx105 (fun _ e => e.elim)
            replace ox18_105 : TAct.Ok _ _ _ x18 := Dat.kp (a := x18) ox18_105 hx105 (fun _ e => e.elim)
            replace hg96_105 := hx105.blk hg96_105 (fun e => e)
            replace hg34_105 := hx105.blk hg34_105 (fun e => e)
            replace hF := hF.ex hx105
            have hS105 := Kp.refl (fun _ => False) w105
            refine segD [0, 2] [0, 2] [(1, .slice s.A s.l.length s.c), (5, .pointer (some (⟨g4, 0, none⟩))), (6, .pointer (some (⟨g5, 0, none⟩))), (7, .int .i64 (i : Int)), (8, .slice A102 ((doneL (addL l (addE (max most 0) l.length e 0 x18.B.l.length) x18.B.l) (addE (max most 0) l.length e 0 x18.B.l.length)).length) c102), (79, .int .i64 (addE (max most 0) l.length e 0 x18.B.l.length)), (81, .pointer (some (⟨g5, 2, none⟩)))] (by kernel_rfl) ?_
            refine takeD (i := 3) (d := (some 82)) (s := vS (Instr.loadAt 3 (.pointer (some (⟨g5, 2, none⟩))))) (v := .int .i64 (addE (max most 0) l.length e 0 x18.B.l.length)) (by kernel_rfl) (by kernel_rfl) (fun w' hw' => ld_run _ _ _ (by kernel_rfl) (hw'.cell (blk_cell hg34_105 rfl) (fun e => e))) ?_
            have hlt106 := own_lt hn30_105
            have hlt107 := own_lt hn96_105
            have hlt108 := own_lt hn102_105
            refine stD (i := 1) (by kernel_rfl) hS105 (callR (some 80) 18 #[.int .i64 (addE (max most 0) l.length e 0 x18.B.l.length)] Try.call18 (num_c w105 (addE (max most 0) l.length e 0 x18.B.l.length)) (by kernel_rfl) ?_)
            rintro _ _ ⟨rfl, rfl⟩
            refine segD [4, 5] [0, 2, 3, 1, 4, 5] [(1, .slice s.A s.l.length s.c), (5, .pointer (some (⟨g4, 0, none⟩))), (6, .pointer (some (⟨g5, 0, none⟩))), (7, .int .i64 (i : Int)), (8, .slice A102 ((doneL (addL l (addE (max most 0) l.length e 0 x18.B.l.length) x18.B.l) (addE (max most 0) l.length e 0 x18.B.l.length)).length) c102), (84, .bool ((addE (max most 0) l.length e 0 x18.B.l.length) != (addE (max most 0) l.length e 0 x18.B.l.length)))] (by kernel_rfl) ?_
            rw [show ((addE (max most 0) l.length e 0 x18.B.l.length) != (addE (max most 0) l.length e 0 x18.B.l.length)) = false from by simp]
            refine segD [6, 8] [0, 2, 3, 1, 4, 5, 6, 8] [(1, .slice s.A s.l.length s.c), (5, .pointer (some (⟨g4, 0, none⟩))), (6, .pointer (some (⟨g5, 0, none⟩))), (7, .int .i64 (i : Int)), (8, .slice A102 ((doneL (addL l (addE (max most 0) l.length e 0 x18.B.l.length) x18.B.l) (addE (max most 0) l.length e 0 x18.B.l.length)).length) c102), (84, .bool false), (85, .pointer (some (⟨g4, 0, none⟩))), (87, .pointer (some (⟨g5, 0, none⟩)))] (by kernel_rfl) ?_
            refine takeD (i := 9) (d := (some 88)) (s := vS (Instr.loadAt 22 (.pointer (some (⟨g5, 0, none⟩))))) (v := .slice A30 ((addL l (addE (max most 0) l.length e 0 x18.B.l.length) x18.B.l).length) c30) (by kernel_rfl) (by kernel_rfl) (fun w' hw' => ld_run _ _ _ (by kernel_rfl) (hw'.cell (blk_cell hg34_105 rfl) (fun e => e))) ?_
            refine segD [10] [0, 2, 3, 1, 4, 5, 6, 8, 9, 10] [(1, .slice s.A s.l.length s.c), (5, .pointer (some (⟨g4, 0, none⟩))), (6, .pointer (some (⟨g5, 0, none⟩))), (7, .int .i64 (i : Int)), (8, .slice A102 ((doneL (addL l (addE (max most 0) l.length e 0 x18.B.l.length) x18.B.l) (addE (max most 0) l.length e 0 x18.B.l.length)).length) c102), (84, .bool false), (85, .pointer (some (⟨g4, 0, none⟩))), (89, .int .i64 ((addL l (addE (max most 0) l.length e 0 x18.B.l.length) x18.B.l).length : Int))] (by kernel_rfl) ?_
            have hlt109 := own_lt hn30_105
            have hlt110 := own_lt hn96_105
            have hlt111 := own_lt hn102_105
            refine stD (i := 7) (by kernel_rfl) hS105 (callR (some 86) 36 #[.pointer (some (⟨g4, 0, none⟩))] Try.call36 (wlen_c w105 g4 A96 ((addL l (addE (max most 0) l.length e 0 x18.B.l.length) x18.B.l).length) c96 (max most 0) (addE (max most 0) l.length e 0 x18.B.l.length) hg96_105) (by kernel_rfl) ?_)
            rintro _ _ ⟨rfl, rfl⟩
            refine segD [11, 12, 13] [0, 2, 3, 1, 4, 5, 6, 8, 9, 10, 7, 11, 12, 13] [(1, .slice s.A s.l.length s.c), (5, .pointer (some (⟨g4, 0, none⟩))), (6, .pointer (some (⟨g5, 0, none⟩))), (7, .int .i64 (i : Int)), (8, .slice A102 ((doneL (addL l (addE (max most 0) l.length e 0 x18.B.l.length) x18.B.l) (addE (max most 0) l.length e 0 x18.B.l.length)).length) c102), (92, .bool (((addL l (addE (max most 0) l.length e 0 x18.B.l.length) x18.B.l).length : Int) != ((addL l (addE (max most 0) l.length e 0 x18.B.l.length) x18.B.l).length : Int)))] (by kernel_rfl) ?_
            rw [show (((addL l (addE (max most 0) l.length e 0 x18.B.l.length) x18.B.l).length : Int) != ((addL l (addE (max most 0) l.length e 0 x18.B.l.length) x18.B.l).length : Int)) = false from by simp]
            refine segD [14] [0, 2, 3, 1, 4, 5, 6, 8, 9, 10, 7, 11, 12, 13, 14] [(1, .slice s.A s.l.length s.c), (5, .pointer (some (⟨g4, 0, none⟩))), (6, .pointer (some (⟨g5, 0, none⟩))), (7, .int .i64 (i : Int)), (8, .slice A102 ((doneL (addL l (addE (max most 0) l.length e 0 x18.B.l.length) x18.B.l) (addE (max most 0) l.length e 0 x18.B.l.length)).length) c102), (92, .bool false), (93, .pointer (some (⟨g5, 2, none⟩)))] (by kernel_rfl) ?_
            refine stD (i := 15) (by kernel_rfl) hS105 (ldR (some 94) 3 (⟨g5, 2, none⟩) (.int .i64 (addE (max most 0) l.length e 0 x18.B.l.length)) (by kernel_rfl) (by kernel_rfl) (blk_cell hg34_105 rfl) ?_)
            refine segD [16, 17] [0, 2, 3, 1, 4, 5, 6, 8, 9, 10, 7, 11, 12, 13, 14, 15, 16, 17] [(1, .slice s.A s.l.length s.c), (5, .pointer (some (⟨g4, 0, none⟩))), (6, .pointer (some (⟨g5, 0, none⟩))), (7, .int .i64 (i : Int)), (8, .slice A102 ((doneL (addL l (addE (max most 0) l.length e 0 x18.B.l.length) x18.B.l) (addE (max most 0) l.length e 0 x18.B.l.length)).length) c102), (92, .bool false), (96, .bool ((addE (max most 0) l.length e 0 x18.B.l.length) == 0))] (by kernel_rfl) ?_
            rcases bsplit ((addE (max most 0) l.length e 0 x18.B.l.length) == 0) with hb112 | hb112
            · rw [hb112]
              have h112 : (addE (max most 0) l.length e 0 x18.B.l.length) = 0 := by simpa using hb112
              refine segD [18, 20] [0, 2, 3, 1, 4, 5, 6, 8, 9, 10, 7, 11, 12, 13, 14, 15, 16, 17, 18, 20] [(1, .slice s.A s.l.length s.c), (5, .pointer (some (⟨g4, 0, none⟩))), (6, .pointer (some (⟨g5, 0, none⟩))), (7, .int .i64 (i : Int)), (8, .slice A102 ((doneL (addL l (addE (max most 0) l.length e 0 x18.B.l.length) x18.B.l) (addE (max most 0) l.length e 0 x18.B.l.length)).length) c102), (92, .bool false), (96, .bool true), (97, .slice A102 ((doneL (addL l (addE (max most 0) l.length e 0 x18.B.l.length) x18.B.l) (addE (max most 0) l.length e 0 x18.B.l.length)).length) c102), (99, .pointer (some (⟨g5, 0, none⟩)))] (by kernel_rfl) ?_
              refine takeD (i := 19) (d := (some 98)) (s := vS (convert 22 9 (.slice A102 ((doneL (addL l (addE (max most 0) l.length e 0 x18.B.l.length) x18.B.l) (addE (max most 0) l.length e 0 x18.B.l.length)).length) c102))) (v := .string (⟨(doneL (addL l (addE (max most 0) l.length e 0 x18.B.l.length) x18.B.l) (addE (max most 0) l.length e 0 x18.B.l.length)).toArray⟩)) (by kernel_rfl) (by kernel_rfl) (fun w' hw' => b2s_run _ _ 5 _ _ _ _ Try.underlying22 Try.underlying5 Try.underlying9 (Cs.kp (Cs.of_own hn102_105) hw' (fun _ e => e.elim)) (by first | rfl | omega | (simp; done) | (simp; omega))) ?_
              refine stD (i := 21) (by kernel_rfl) hS105 (ldR (some 100) 22 (⟨g5, 0, none⟩) (.slice A30 ((addL l (addE (max most 0) l.length e 0 x18.B.l.length) x18.B.l).length) c30) (by kernel_rfl) (by kernel_rfl) (blk_cell hg34_105 rfl) ?_)
              refine stD (i := 22) (by kernel_rfl) hS105 (b2sR (some 101) 22 9 5 A30 ((addL l (addE (max most 0) l.length e 0 x18.B.l.length) x18.B.l).length) c30 (addL l (addE (max most 0) l.length e 0 x18.B.l.length) x18.B.l) Try.underlying22 Try.underlying5 Try.underlying9 (by kernel_rfl) (Cs.of_own hn30_105) (by first | rfl | omega | (simp; done) | (simp; omega)) ?_)
              refine segD [23, 24, 25, 26] [0, 2, 3, 1, 4, 5, 6, 8, 9, 10, 7, 11, 12, 13, 14, 15, 16, 17, 18, 20, 19, 21, 22, 23, 24, 25, 26] [(1, .slice s.A s.l.length s.c), (5, .pointer (some (⟨g4, 0, none⟩))), (6, .pointer (some (⟨g5, 0, none⟩))), (7, .int .i64 (i : Int)), (8, .slice A102 ((doneL (addL l (addE (max most 0) l.length e 0 x18.B.l.length) x18.B.l) (addE (max most 0) l.length e 0 x18.B.l.length)).length) c102), (105, .bool (!(ByteArray.toList (⟨(doneL (addL l (addE (max most 0) l.length e 0 x18.B.l.length) x18.B.l) (addE (max most 0) l.length e 0 x18.B.l.length)).toArray⟩) == ByteArray.toList (⟨(addL l (addE (max most 0) l.length e 0 x18.B.l.length) x18.B.l).toArray⟩))))] (by kernel_rfl) ?_
              rw [show (ByteArray.toList (⟨(doneL (addL l (addE (max most 0) l.length e 0 x18.B.l.length) x18.B.l) (addE (max most 0) l.length e 0 x18.B.l.length)).toArray⟩) == ByteArray.toList (⟨(addL l (addE (max most 0) l.length e 0 x18.B.l.length) x18.B.l).toArray⟩)) = true from streq_t (by simp only [doneL, h112, if_true])]
              refine segD [27] [0, 2, 3, 1, 4, 5, 6, 8, 9, 10, 7, 11, 12, 13, 14, 15, 16, 17, 18, 20, 19, 21, 22, 23, 24, 25, 26, 27] [(1, .slice s.A s.l.length s.c), (5, .pointer (some (⟨g4, 0, none⟩))), (6, .pointer (some (⟨g5, 0, none⟩))), (7, .int .i64 (i : Int)), (8, .slice A102 ((doneL (addL l (addE (max most 0) l.length e 0 x18.B.l.length) x18.B.l) (addE (max most 0) l.length e 0 x18.B.l.length)).length) c102), (105, .bool false), (106, .pointer (some (⟨g5, 2, none⟩)))] (by kernel_rfl) ?_
              refine stD (i := 28) (by kernel_rfl) hS105 (ldR (some 107) 3 (⟨g5, 2, none⟩) (.int .i64 (addE (max most 0) l.length e 0 x18.B.l.length)) (by kernel_rfl) (by kernel_rfl) (blk_cell hg34_105 rfl) ?_)
              refine segD [29, 30] [0, 2, 3, 1, 4, 5, 6, 8, 9, 10, 7, 11, 12, 13, 14, 15, 16, 17, 18, 20, 19, 21, 22, 23, 24, 25, 26, 27, 28, 29, 30] [(1, .slice s.A s.l.length s.c), (5, .pointer (some (⟨g4, 0, none⟩))), (6, .pointer (some (⟨g5, 0, none⟩))), (7, .int .i64 (i : Int)), (8, .slice A102 ((doneL (addL l (addE (max most 0) l.length e 0 x18.B.l.length) x18.B.l) (addE (max most 0) l.length e 0 x18.B.l.length)).length) c102), (105, .bool false), (109, .bool ((addE (max most 0) l.length e 0 x18.B.l.length) != 0))] (by kernel_rfl) ?_
              rw [show ((addE (max most 0) l.length e 0 x18.B.l.length) != 0) = false from beq_bne hb112]
              refine segD [31, 32, 33, 34, 35] [0, 2, 3, 1, 4, 5, 6, 8, 9, 10, 7, 11, 12, 13, 14, 15, 16, 17, 18, 20, 19, 21, 22, 23, 24, 25, 26, 27, 28, 29, 30, 31, 32, 33, 34, 35] [(1, .slice s.A s.l.length s.c), (5, .pointer (some (⟨g4, 0, none⟩))), (6, .pointer (some (⟨g5, 0, none⟩))), (7, .int .i64 (i : Int)), (8, .slice A102 ((doneL (addL l (addE (max most 0) l.length e 0 x18.B.l.length) x18.B.l) (addE (max most 0) l.length e 0 x18.B.l.length)).length) c102), (114, .bool false)] (by kernel_rfl) ?_
              refine endD (by kernel_rfl) hS105 ?_
              refine seg 7 [.co [1, 1, 1, 1, 0, 1, 0, 0, 1, 0, 0, 1, 1, 1, 1, 1, 1, 0], .bl 3, .bl 1, .co [1, 1, 1, 1, 0, 1, 0, 0, 1, 1], .le 0, .bl 0, .co [1, 1, 1, 1, 1]] [(1, .slice s.A s.l.length s.c), (5, .pointer (some (⟨g4, 0, none⟩))), (6, .pointer (some (⟨g5, 0, none⟩))), (7, .int .i64 (i : Int)), (8, .slice A102 ((doneL (addL l (addE (max most 0) l.length e 0 x18.B.l.length) x18.B.l) (addE (max most 0) l.length e 0 x18.B.l.length)).length) c102), (10, .int .i64 0)] (by kernel_rfl) ?_
              refine loopR 1 (fun (x : Nat × List UInt8) => [(1, .slice s.A s.l.length s.c), (5, .pointer (some (⟨g4, 0, none⟩))), (6, .pointer (some (⟨g5, 0, none⟩))), (7, .int .i64 (i : Int)), (8, .slice A102 ((doneL (addL l (addE (max most 0) l.length e 0 x18.B.l.length) x18.B.l) (addE (max most 0) l.length e 0 x18.B.l.length)).length) c102), (10, .int .i64 (x.1 : Int))]) (fun (x : Nat × List UInt8) (wl113 : World) => x.1 ≤ (doneL (addL l (addE (max most 0) l.length e 0 x18.B.l.length) x18.B.l) (addE (max most 0) l.length e 0 x18.B.l.length)).length ∧ x.2.length = (doneL (addL l (addE (max most 0) l.length e 0 x18.B.l.length) x18.B.l) (addE (max most 0) l.length e 0 x18.B.l.length)).length ∧ Sls.Ok 0 w.heap.size wl113 s ∧ TAct.Ok 0 w.heap.size wl113 x18 ∧ wl113.ownsRow (g5 + 1) 5 1 (.slice A30 ((addL l (addE (max most 0) l.length e 0 x18.B.l.length) x18.B.l).length) c30) ((addL l (addE (max most 0) l.length e 0 x18.B.l.length) x18.B.l).length) (bs (addL l (addE (max most 0) l.length e 0 x18.B.l.length) x18.B.l)) ∧ wl113.ownsRow (g5 + 1) 5 1 (.slice A96 ((addL l (addE (max most 0) l.length e 0 x18.B.l.length) x18.B.l).length) c96) ((addL l (addE (max most 0) l.length e 0 x18.B.l.length) x18.B.l).length) (bs (addL l (addE (max most 0) l.length e 0 x18.B.l.length) x18.B.l)) ∧ wl113.ownsRow w96.heap.size 5 1 (.slice A102 ((doneL (addL l (addE (max most 0) l.length e 0 x18.B.l.length) x18.B.l) (addE (max most 0) l.length e 0 x18.B.l.length)).length) c102) ((doneL (addL l (addE (max most 0) l.length e 0 x18.B.l.length) x18.B.l) (addE (max most 0) l.length e 0 x18.B.l.length)).length) (bs x.2) ∧ wl113.heap[g4]? = some (.cells #[.slice A96 ((addL l (addE (max most 0) l.length e 0 x18.B.l.length) x18.B.l).length) c96, .int .i64 (max most 0), .int .i64 (addE (max most 0) l.length e 0 x18.B.l.length)] 95 (0, 0)) ∧ wl113.heap[g5]? = some (.cells #[.slice A30 ((addL l (addE (max most 0) l.length e 0 x18.B.l.length) x18.B.l).length) c30, .int .i64 most, .int .i64 (addE (max most 0) l.length e 0 x18.B.l.length)] 54 (0, 0)) ∧ Apart A96 A30 ∧ Ex w wl113) (fun (x : Nat × List UInt8) => (doneL (addL l (addE (max most 0) l.length e 0 x18.B.l.length) x18.B.l) (addE (max most 0) l.length e 0 x18.B.l.length)).length - x.1) (0, (doneL (addL l (addE (max most 0) l.length e 0 x18.B.l.length) x18.B.l) (addE (max most 0) l.length e 0 x18.B.l.length))) (by kernel_rfl) (by kernel_rfl) (by kernel_rfl) ?_ ?_
              · exact ⟨Nat.zero_le _, rfl, hd8_105, ox18_105, hn30_105, hn96_105, hn102_105, hg96_105, hg34_105, hap100, hF⟩
              rintro ⟨k, m⟩ wl113 ⟨hk, hm, hd114, hd115, hn116, hn117, hn118, hg119, hg120, hap121, hF⟩
              try dsimp only at hk
              try dsimp only at hm
              try dsimp only at hd114
              try dsimp only at hd115
              try dsimp only at hn116
              try dsimp only at hn117
              try dsimp only at hn118
              try dsimp only at hg119
              try dsimp only at hg120
              try dsimp only at hap121
              try dsimp only at hF
              have hzwl113 := hF.size
              have hbl122 := blk_lt hg119
              have hbl123 := blk_lt hg120
              refine seg 8 [.co [1, 1, 1, 1, 0, 1, 0, 0, 1, 0, 0, 1, 1, 1, 1, 1, 1, 0, 0, 0, 1], .co [1, 1, 1, 1, 0, 1, 0, 0, 1, 0, 0, 1, 1, 1, 1, 1, 1, 0, 0, 1], .le 1, .bl 3, .bl 1, .co [1, 1, 1, 1, 0, 1, 0, 0, 1, 1], .le 0, .bl 0, .co [1, 1, 1, 1, 1]] [(1, .slice s.A s.l.length s.c), (5, .pointer (some (⟨g4, 0, none⟩))), (6, .pointer (some (⟨g5, 0, none⟩))), (7, .int .i64 (i : Int)), (8, .slice A102 ((doneL (addL l (addE (max most 0) l.length e 0 x18.B.l.length) x18.B.l) (addE (max most 0) l.length e 0 x18.B.l.length)).length) c102), (10, .int .i64 (k : Int)), (118, .bool (decide ((k : Int) < ((doneL (addL l (addE (max most 0) l.length e 0 x18.B.l.length) x18.B.l) (addE (max most 0) l.length e 0 x18.B.l.length)).length : Int))))] (by kernel_rfl) ?_
              rcases bsplit (decide ((k : Int) < ((doneL (addL l (addE (max most 0) l.length e 0 x18.B.l.length) x18.B.l) (addE (max most 0) l.length e 0 x18.B.l.length)).length : Int))) with hb124 | hb124
              · rw [hb124]
                have h124 := of_decide_eq_true hb124
                refine seg 7 [.op [1, 1, 1, 1, 0, 1, 0, 0, 1, 0, 0, 1, 1, 1, 1, 1, 1, 0, 0, 1, 0, 0] 2, .bl 4, .co [1, 1, 1, 1, 0, 1, 0, 0, 1, 0, 0, 1, 1, 1, 1, 1, 1, 0, 0, 1, 1], .le 1, .bl 3, .bl 1, .co [1, 1, 1, 1, 0, 1, 0, 0, 1, 1], .le 0, .bl 0, .co [1, 1, 1, 1, 1]] [(1, .slice s.A s.l.length s.c), (5, .pointer (some (⟨g4, 0, none⟩))), (6, .pointer (some (⟨g5, 0, none⟩))), (7, .int .i64 (i : Int)), (8, .slice A102 ((doneL (addL l (addE (max most 0) l.length e 0 x18.B.l.length) x18.B.l) (addE (max most 0) l.length e 0 x18.B.l.length)).length) c102), (10, .int .i64 (k : Int)), (121, .slice A102 ((doneL (addL l (addE (max most 0) l.length e 0 x18.B.l.length) x18.B.l) (addE (max most 0) l.length e 0 x18.B.l.length)).length) c102), (122, .int .i64 (k : Int))] (by kernel_rfl) ?_
                have u126 := UInt8.toNat_lt (m.getD k 0)
                obtain ⟨ad125, ea125, l1125, l2125, ca125⟩ := (Cs.of_own hn118).at2 (bs_get m k (by omega))
                refine st (idxR (some 123) 22 5 1 A102 ad125 ((doneL (addL l (addE (max most 0) l.length e 0 x18.B.l.length) x18.B.l) (addE (max most 0) l.length e 0 x18.B.l.length)).length) c102 .i64 (k : Int) k ea125 (by kernel_rfl) (by kernel_rfl) (by omega) (by omega) (by omega) ?_)
                refine st (ldR (some 124) 5 (ad125.add k) (.int .u8 ((m.getD k 0).toNat : Int)) (by kernel_rfl) (by kernel_rfl) ca125 ?_)
                refine seg 1 [.op [1, 1, 1, 1, 0, 1, 0, 0, 1, 0, 0, 1, 1, 1, 1, 1, 1, 0, 0, 1, 0, 0] 5, .bl 4, .co [1, 1, 1, 1, 0, 1, 0, 0, 1, 0, 0, 1, 1, 1, 1, 1, 1, 0, 0, 1, 1], .le 1, .bl 3, .bl 1, .co [1, 1, 1, 1, 0, 1, 0, 0, 1, 1], .le 0, .bl 0, .co [1, 1, 1, 1, 1]] [(1, .slice s.A s.l.length s.c), (5, .pointer (some (⟨g4, 0, none⟩))), (6, .pointer (some (⟨g5, 0, none⟩))), (7, .int .i64 (i : Int)), (8, .slice A102 ((doneL (addL l (addE (max most 0) l.length e 0 x18.B.l.length) x18.B.l) (addE (max most 0) l.length e 0 x18.B.l.length)).length) c102), (10, .int .i64 (k : Int)), (121, .slice A102 ((doneL (addL l (addE (max most 0) l.length e 0 x18.B.l.length) x18.B.l) (addE (max most 0) l.length e 0 x18.B.l.length)).length) c102), (122, .int .i64 (k : Int)), (125, .int .u8 (IntKind.u8.wrap (((m.getD k 0).toNat : Int) + 1)))] (by kernel_rfl) ?_
                rw [show IntKind.u8.wrap (((m.getD k 0).toNat : Int) + 1) = ((m.getD k 0 + 1).toNat : Int) from wrap_succ _]
                have u128 := UInt8.toNat_lt (m.getD k 0)
                obtain ⟨ad127, ea127, l1127, l2127, ca127⟩ := (Cs.of_own hn118).at2 (bs_get m k (by omega))
                refine st (idxR (some 126) 22 5 1 A102 ad127 ((doneL (addL l (addE (max most 0) l.length e 0 x18.B.l.length) x18.B.l) (addE (max most 0) l.length e 0 x18.B.l.length)).length) c102 .i64 (k : Int) k ea127 (by kernel_rfl) (by kernel_rfl) (by omega) (by omega) (by omega) ?_)
                have hlt130 := own_lt hn116
                have hlt131 := own_lt hn117
                refine st (stOwnR none 5 w96.heap.size 5 1 A102 ((doneL (addL l (addE (max most 0) l.length e 0 x18.B.l.length) x18.B.l) (addE (max most 0) l.length e 0 x18.B.l.length)).length) c102 (bs m) ad127 k (.int .u8 ((m.getD k 0 + 1).toNat : Int)) (by kernel_rfl) (by kernel_rfl) rfl hn118 ea127 (by first | (rw [bs_length]; omega) | (simp; omega)) ?_)
                intro w129 hn129 hx129 hz129
                replace hn116 := own_kp hn116 hx129 (fun k hk e => by have h1 := own_ge hn116 hk.symm; first | (have h2 := own_ge hn118 e; omega) | (have h2 := own_ge hn118 e; have h3 := hlt99 k hk.symm; omega) | (have h2 := own_ge hn118 e; have h3 := hlt103 k hk.symm; omega) | (have h2 := own_ge hn118 e; have h3 := hlt106 k hk.symm; omega) | (have h2 := own_ge hn118 e; have h3 := hlt109 k hk.symm; omega) | (have h2 := own_ge hn118 e; have h3 := hlt130 k hk.symm; omega) | (have h2 := hlt108 k e; omega) | (have h2 := hlt111 k e; omega))
                replace hn117 := own_kp hn117 hx129 (fun k hk e => by have h1 := own_ge hn117 hk.symm; first | (have h2 := own_ge hn118 e; omega) | (have h2 := own_ge hn118 e; have h3 := hlt104 k hk.symm; omega) | (have h2 := own_ge hn118 e; have h3 := hlt107 k hk.symm; omega) | (have h2 := own_ge hn118 e; have h3 := hlt110 k hk.symm; omega) | (have h2 := own_ge hn118 e; have h3 := hlt131 k hk.symm; omega) | (have h2 := hlt108 k e; omega) | (have h2 := hlt111 k e; omega))
                replace hd114 : Sls.Ok _ _ _ s := Dat.kp (a := s) hd114 hx129 (fun k hk => by first | exact .inr (by have := own_ge hn118 hk; omega) | exact .inl (by have := hlt108 k hk; omega) | exact .inl (by have := hlt111 k hk; omega))
                replace hd115 : TAct.Ok _ _ _ x18 := Dat.kp (a := x18) hd115 hx129 (fun k hk => by first | exact .inr (by have := own_ge hn118 hk; omega) | exact .inl (by have := hlt108 k hk; omega) | exact .inl (by have := hlt111 k hk; omega))
                replace hg119 := hx129.blk hg119 (fun e => by have := own_ge hn118 e; omega)
                replace hg120 := hx129.blk hg120 (fun e => by have := own_ge hn118 e; omega)
                replace hF := hF.step hx129 (fun k hk hlt => absurd (own_ge hn118 hk) (by omega))
                rw [bs_set] at hn129
                refine seg 7 [.le 1, .bl 3, .bl 1, .co [1, 1, 1, 1, 0, 1, 0, 0, 1, 1], .le 0, .bl 0, .co [1, 1, 1, 1, 1]] [(1, .slice s.A s.l.length s.c), (5, .pointer (some (⟨g4, 0, none⟩))), (6, .pointer (some (⟨g5, 0, none⟩))), (7, .int .i64 (i : Int)), (8, .slice A102 ((doneL (addL l (addE (max most 0) l.length e 0 x18.B.l.length) x18.B.l) (addE (max most 0) l.length e 0 x18.B.l.length)).length) c102), (10, .int .i64 (IntKind.i64.wrap ((k : Int) + 1)))] (by kernel_rfl) ?_
                rw [show IntKind.i64.wrap ((k : Int) + 1) = ((k : Int) + 1) from w64 (by omega)]
                refine leR (k + 1, (m.set k (m.getD k 0 + 1))) (by dsimp only; omega) ⟨by dsimp only; omega, by dsimp only; rw [List.length_set]; exact hm, hd114, hd115, hn116, hn117, hn129, hg119, hg120, hap121, hF⟩ (by kernel_rfl)
              · rw [hb124]
                have h124 := of_decide_eq_false hb124
                refine seg 8 [.le 0, .bl 0, .co [1, 1, 1, 1, 1]] [(1, .slice s.A s.l.length s.c), (5, .pointer (some (⟨g4, 0, none⟩))), (6, .pointer (some (⟨g5, 0, none⟩))), (7, .int .i64 (IntKind.i64.wrap ((i : Int) + 1)))] (by kernel_rfl) ?_
                rw [show IntKind.i64.wrap ((i : Int) + 1) = ((i : Int) + 1) from w64 (by omega)]
                refine leR_up (k' := []) (by rfl) ?_
                refine leR (i + 1, (addL l (addE (max most 0) l.length e 0 x18.B.l.length) x18.B.l), (addE (max most 0) l.length e 0 x18.B.l.length), A96, c96, A30, c30) (by dsimp only; omega) ⟨by dsimp only; omega, by dsimp only; omega, hd114, hn117, hn116, hg119, hg120, hap121, hF⟩ (by kernel_rfl)
            · rw [hb112]
              have h112 : (addE (max most 0) l.length e 0 x18.B.l.length) ≠ 0 := by simpa using hb112
              refine segD [18, 19, 20, 21, 22, 23, 24, 25, 26, 27] [0, 2, 3, 1, 4, 5, 6, 8, 9, 10, 7, 11, 12, 13, 14, 15, 16, 17, 18, 19, 20, 21, 22, 23, 24, 25, 26, 27] [(1, .slice s.A s.l.length s.c), (5, .pointer (some (⟨g4, 0, none⟩))), (6, .pointer (some (⟨g5, 0, none⟩))), (7, .int .i64 (i : Int)), (8, .slice A102 ((doneL (addL l (addE (max most 0) l.length e 0 x18.B.l.length) x18.B.l) (addE (max most 0) l.length e 0 x18.B.l.length)).length) c102), (105, .bool false), (106, .pointer (some (⟨g5, 2, none⟩)))] (by kernel_rfl) ?_
              refine stD (i := 28) (by kernel_rfl) hS105 (ldR (some 107) 3 (⟨g5, 2, none⟩) (.int .i64 (addE (max most 0) l.length e 0 x18.B.l.length)) (by kernel_rfl) (by kernel_rfl) (blk_cell hg34_105 rfl) ?_)
              refine segD [29, 30] [0, 2, 3, 1, 4, 5, 6, 8, 9, 10, 7, 11, 12, 13, 14, 15, 16, 17, 18, 19, 20, 21, 22, 23, 24, 25, 26, 27, 28, 29, 30] [(1, .slice s.A s.l.length s.c), (5, .pointer (some (⟨g4, 0, none⟩))), (6, .pointer (some (⟨g5, 0, none⟩))), (7, .int .i64 (i : Int)), (8, .slice A102 ((doneL (addL l (addE (max most 0) l.length e 0 x18.B.l.length) x18.B.l) (addE (max most 0) l.length e 0 x18.B.l.length)).length) c102), (105, .bool false), (109, .bool ((addE (max most 0) l.length e 0 x18.B.l.length) != 0))] (by kernel_rfl) ?_
              rw [show ((addE (max most 0) l.length e 0 x18.B.l.length) != 0) = true from beq_bne hb112]
              refine segD [31, 32, 33, 34, 35] [0, 2, 3, 1, 4, 5, 6, 8, 9, 10, 7, 11, 12, 13, 14, 15, 16, 17, 18, 19, 20, 21, 22, 23, 24, 25, 26, 27, 28, 29, 30, 31, 32, 33, 34, 35] [(1, .slice s.A s.l.length s.c), (5, .pointer (some (⟨g4, 0, none⟩))), (6, .pointer (some (⟨g5, 0, none⟩))), (7, .int .i64 (i : Int)), (8, .slice A102 ((doneL (addL l (addE (max most 0) l.length e 0 x18.B.l.length) x18.B.l) (addE (max most 0) l.length e 0 x18.B.l.length)).length) c102), (114, .bool (((doneL (addL l (addE (max most 0) l.length e 0 x18.B.l.length) x18.B.l) (addE (max most 0) l.length e 0 x18.B.l.length)).length : Int) != 0))] (by kernel_rfl) ?_
              refine endD (by kernel_rfl) hS105 ?_
              rw [show (((doneL (addL l (addE (max most 0) l.length e 0 x18.B.l.length) x18.B.l) (addE (max most 0) l.length e 0 x18.B.l.length)).length : Int) != 0) = false from by simp only [doneL, h112, if_false]; rfl]
              refine seg 7 [.co [1, 1, 1, 1, 0, 1, 0, 0, 1, 0, 0, 1, 1, 1, 1, 1, 1, 0], .bl 3, .bl 1, .co [1, 1, 1, 1, 0, 1, 0, 0, 1, 1], .le 0, .bl 0, .co [1, 1, 1, 1, 1]] [(1, .slice s.A s.l.length s.c), (5, .pointer (some (⟨g4, 0, none⟩))), (6, .pointer (some (⟨g5, 0, none⟩))), (7, .int .i64 (i : Int)), (8, .slice A102 ((doneL (addL l (addE (max most 0) l.length e 0 x18.B.l.length) x18.B.l) (addE (max most 0) l.length e 0 x18.B.l.length)).length) c102), (10, .int .i64 0)] (by kernel_rfl) ?_
              refine loopR 1 (fun (x : Nat × List UInt8) => [(1, .slice s.A s.l.length s.c), (5, .pointer (some (⟨g4, 0, none⟩))), (6, .pointer (some (⟨g5, 0, none⟩))), (7, .int .i64 (i : Int)), (8, .slice A102 ((doneL (addL l (addE (max most 0) l.length e 0 x18.B.l.length) x18.B.l) (addE (max most 0) l.length e 0 x18.B.l.length)).length) c102), (10, .int .i64 (x.1 : Int))]) (fun (x : Nat × List UInt8) (wl132 : World) => x.1 ≤ (doneL (addL l (addE (max most 0) l.length e 0 x18.B.l.length) x18.B.l) (addE (max most 0) l.length e 0 x18.B.l.length)).length ∧ x.2.length = (doneL (addL l (addE (max most 0) l.length e 0 x18.B.l.length) x18.B.l) (addE (max most 0) l.length e 0 x18.B.l.length)).length ∧ Sls.Ok 0 w.heap.size wl132 s ∧ TAct.Ok 0 w.heap.size wl132 x18 ∧ wl132.ownsRow (g5 + 1) 5 1 (.slice A30 ((addL l (addE (max most 0) l.length e 0 x18.B.l.length) x18.B.l).length) c30) ((addL l (addE (max most 0) l.length e 0 x18.B.l.length) x18.B.l).length) (bs (addL l (addE (max most 0) l.length e 0 x18.B.l.length) x18.B.l)) ∧ wl132.ownsRow (g5 + 1) 5 1 (.slice A96 ((addL l (addE (max most 0) l.length e 0 x18.B.l.length) x18.B.l).length) c96) ((addL l (addE (max most 0) l.length e 0 x18.B.l.length) x18.B.l).length) (bs (addL l (addE (max most 0) l.length e 0 x18.B.l.length) x18.B.l)) ∧ wl132.ownsRow w96.heap.size 5 1 (.slice A102 ((doneL (addL l (addE (max most 0) l.length e 0 x18.B.l.length) x18.B.l) (addE (max most 0) l.length e 0 x18.B.l.length)).length) c102) ((doneL (addL l (addE (max most 0) l.length e 0 x18.B.l.length) x18.B.l) (addE (max most 0) l.length e 0 x18.B.l.length)).length) (bs x.2) ∧ wl132.heap[g4]? = some (.cells #[.slice A96 ((addL l (addE (max most 0) l.length e 0 x18.B.l.length) x18.B.l).length) c96, .int .i64 (max most 0), .int .i64 (addE (max most 0) l.length e 0 x18.B.l.length)] 95 (0, 0)) ∧ wl132.heap[g5]? = some (.cells #[.slice A30 ((addL l (addE (max most 0) l.length e 0 x18.B.l.length) x18.B.l).length) c30, .int .i64 most, .int .i64 (addE (max most 0) l.length e 0 x18.B.l.length)] 54 (0, 0)) ∧ Apart A96 A30 ∧ Ex w wl132) (fun (x : Nat × List UInt8) => (doneL (addL l (addE (max most 0) l.length e 0 x18.B.l.length) x18.B.l) (addE (max most 0) l.length e 0 x18.B.l.length)).length - x.1) (0, (doneL (addL l (addE (max most 0) l.length e 0 x18.B.l.length) x18.B.l) (addE (max most 0) l.length e 0 x18.B.l.length))) (by kernel_rfl) (by kernel_rfl) (by kernel_rfl) ?_ ?_
              · exact ⟨Nat.zero_le _, rfl, hd8_105, ox18_105, hn30_105, hn96_105, hn102_105, hg96_105, hg34_105, hap100, hF⟩
              rintro ⟨k, m⟩ wl132 ⟨hk, hm, hd133, hd134, hn135, hn136, hn137, hg138, hg139, hap140, hF⟩
              try dsimp only at hk
              try dsimp only at hm
              try dsimp only at hd133
              try dsimp only at hd134
              try dsimp only at hn135
              try dsimp only at hn136
              try dsimp only at hn137
              try dsimp only at hg138
              try dsimp only at hg139
              try dsimp only at hap140
              try dsimp only at hF
              have hzwl132 := hF.size
              have hbl141 := blk_lt hg138
              have hbl142 := blk_lt hg139
              refine seg 8 [.co [1, 1, 1, 1, 0, 1, 0, 0, 1, 0, 0, 1, 1, 1, 1, 1, 1, 0, 0, 0, 1], .co [1, 1, 1, 1, 0, 1, 0, 0, 1, 0, 0, 1, 1, 1, 1, 1, 1, 0, 0, 1], .le 1, .bl 3, .bl 1, .co [1, 1, 1, 1, 0, 1, 0, 0, 1, 1], .le 0, .bl 0, .co [1, 1, 1, 1, 1]] [(1, .slice s.A s.l.length s.c), (5, .pointer (some (⟨g4, 0, none⟩))), (6, .pointer (some (⟨g5, 0, none⟩))), (7, .int .i64 (i : Int)), (8, .slice A102 ((doneL (addL l (addE (max most 0) l.length e 0 x18.B.l.length) x18.B.l) (addE (max most 0) l.length e 0 x18.B.l.length)).length) c102), (10, .int .i64 (k : Int)), (118, .bool (decide ((k : Int) < ((doneL (addL l (addE (max most 0) l.length e 0 x18.B.l.length) x18.B.l) (addE (max most 0) l.length e 0 x18.B.l.length)).length : Int))))] (by kernel_rfl) ?_
              rcases bsplit (decide ((k : Int) < ((doneL (addL l (addE (max most 0) l.length e 0 x18.B.l.length) x18.B.l) (addE (max most 0) l.length e 0 x18.B.l.length)).length : Int))) with hb143 | hb143
              · rw [hb143]
                have h143 := of_decide_eq_true hb143
                refine seg 7 [.op [1, 1, 1, 1, 0, 1, 0, 0, 1, 0, 0, 1, 1, 1, 1, 1, 1, 0, 0, 1, 0, 0] 2, .bl 4, .co [1, 1, 1, 1, 0, 1, 0, 0, 1, 0, 0, 1, 1, 1, 1, 1, 1, 0, 0, 1, 1], .le 1, .bl 3, .bl 1, .co [1, 1, 1, 1, 0, 1, 0, 0, 1, 1], .le 0, .bl 0, .co [1, 1, 1, 1, 1]] [(1, .slice s.A s.l.length s.c), (5, .pointer (some (⟨g4, 0, none⟩))), (6, .pointer (some (⟨g5, 0, none⟩))), (7, .int .i64 (i : Int)), (8, .slice A102 ((doneL (addL l (addE (max most 0) l.length e 0 x18.B.l.length) x18.B.l) (addE (max most 0) l.length e 0 x18.B.l.length)).length) c102), (10, .int .i64 (k : Int)), (121, .slice A102 ((doneL (addL l (addE (max most 0) l.length e 0 x18.B.l.length) x18.B.l) (addE (max most 0) l.length e 0 x18.B.l.length)).length) c102), (122, .int .i64 (k : Int))] (by kernel_rfl) ?_
                have u145 := UInt8.toNat_lt (m.getD k 0)
                obtain ⟨ad144, ea144, l1144, l2144, ca144⟩ := (Cs.of_own hn137).at2 (bs_get m k (by omega))
                refine st (idxR (some 123) 22 5 1 A102 ad144 ((doneL (addL l (addE (max most 0) l.length e 0 x18.B.l.length) x18.B.l) (addE (max most 0) l.length e 0 x18.B.l.length)).length) c102 .i64 (k : Int) k ea144 (by kernel_rfl) (by kernel_rfl) (by omega) (by omega) (by omega) ?_)
                refine st (ldR (some 124) 5 (ad144.add k) (.int .u8 ((m.getD k 0).toNat : Int)) (by kernel_rfl) (by kernel_rfl) ca144 ?_)
                refine seg 1 [.op [1, 1, 1, 1, 0, 1, 0, 0, 1, 0, 0, 1, 1, 1, 1, 1, 1, 0, 0, 1, 0, 0] 5, .bl 4, .co [1, 1, 1, 1, 0, 1, 0, 0, 1, 0, 0, 1, 1, 1, 1, 1, 1, 0, 0, 1, 1], .le 1, .bl 3, .bl 1, .co [1, 1, 1, 1, 0, 1, 0, 0, 1, 1], .le 0, .bl 0, .co [1, 1, 1, 1, 1]] [(1, .slice s.A s.l.length s.c), (5, .pointer (some (⟨g4, 0, none⟩))), (6, .pointer (some (⟨g5, 0, none⟩))), (7, .int .i64 (i : Int)), (8, .slice A102 ((doneL (addL l (addE (max most 0) l.length e 0 x18.B.l.length) x18.B.l) (addE (max most 0) l.length e 0 x18.B.l.length)).length) c102), (10, .int .i64 (k : Int)), (121, .slice A102 ((doneL (addL l (addE (max most 0) l.length e 0 x18.B.l.length) x18.B.l) (addE (max most 0) l.length e 0 x18.B.l.length)).length) c102), (122, .int .i64 (k : Int)), (125, .int .u8 (IntKind.u8.wrap (((m.getD k 0).toNat : Int) + 1)))] (by kernel_rfl) ?_
                rw [show IntKind.u8.wrap (((m.getD k 0).toNat : Int) + 1) = ((m.getD k 0 + 1).toNat : Int) from wrap_succ _]
                have u147 := UInt8.toNat_lt (m.getD k 0)
                obtain ⟨ad146, ea146, l1146, l2146, ca146⟩ := (Cs.of_own hn137).at2 (bs_get m k (by omega))
                refine st (idxR (some 126) 22 5 1 A102 ad146 ((doneL (addL l (addE (max most 0) l.length e 0 x18.B.l.length) x18.B.l) (addE (max most 0) l.length e 0 x18.B.l.length)).length) c102 .i64 (k : Int) k ea146 (by kernel_rfl) (by kernel_rfl) (by omega) (by omega) (by omega) ?_)
                have hlt149 := own_lt hn135
                have hlt150 := own_lt hn136
                refine st (stOwnR none 5 w96.heap.size 5 1 A102 ((doneL (addL l (addE (max most 0) l.length e 0 x18.B.l.length) x18.B.l) (addE (max most 0) l.length e 0 x18.B.l.length)).length) c102 (bs m) ad146 k (.int .u8 ((m.getD k 0 + 1).toNat : Int)) (by kernel_rfl) (by kernel_rfl) rfl hn137 ea146 (by first | (rw [bs_length]; omega) | (simp; omega)) ?_)
                intro w148 hn148 hx148 hz148
                replace hn135 := own_kp hn135 hx148 (fun k hk e => by have h1 := own_ge hn135 hk.symm; first | (have h2 := own_ge hn137 e; omega) | (have h2 := own_ge hn137 e; have h3 := hlt99 k hk.symm; omega) | (have h2 := own_ge hn137 e; have h3 := hlt103 k hk.symm; omega) | (have h2 := own_ge hn137 e; have h3 := hlt106 k hk.symm; omega) | (have h2 := own_ge hn137 e; have h3 := hlt109 k hk.symm; omega) | (have h2 := own_ge hn137 e; have h3 := hlt149 k hk.symm; omega) | (have h2 := hlt108 k e; omega) | (have h2 := hlt111 k e; omega))
                replace hn136 := own_kp hn136 hx148 (fun k hk e => by have h1 := own_ge hn136 hk.symm; first | (have h2 := own_ge hn137 e; omega) | (have h2 := own_ge hn137 e; have h3 := hlt104 k hk.symm; omega) | (have h2 := own_ge hn137 e; have h3 := hlt107 k hk.symm; omega) | (have h2 := own_ge hn137 e; have h3 := hlt110 k hk.symm; omega) | (have h2 := own_ge hn137 e; have h3 := hlt150 k hk.symm; omega) | (have h2 := hlt108 k e; omega) | (have h2 := hlt111 k e; omega))
                replace hd133 : Sls.Ok _ _ _ s := Dat.kp (a := s) hd133 hx148 (fun k hk => by first | exact .inr (by have := own_ge hn137 hk; omega) | exact .inl (by have := hlt108 k hk; omega) | exact .inl (by have := hlt111 k hk; omega))
                replace hd134 : TAct.Ok _ _ _ x18 := Dat.kp (a := x18) hd134 hx148 (fun k hk => by first | exact .inr (by have := own_ge hn137 hk; omega) | exact .inl (by have := hlt108 k hk; omega) | exact .inl (by have := hlt111 k hk; omega))
                replace hg138 := hx148.blk hg138 (fun e => by have := own_ge hn137 e; omega)
                replace hg139 := hx148.blk hg139 (fun e => by have := own_ge hn137 e; omega)
                replace hF := hF.step hx148 (fun k hk hlt => absurd (own_ge hn137 hk) (by omega))
                rw [bs_set] at hn148
                refine seg 7 [.le 1, .bl 3, .bl 1, .co [1, 1, 1, 1, 0, 1, 0, 0, 1, 1], .le 0, .bl 0, .co [1, 1, 1, 1, 1]] [(1, .slice s.A s.l.length s.c), (5, .pointer (some (⟨g4, 0, none⟩))), (6, .pointer (some (⟨g5, 0, none⟩))), (7, .int .i64 (i : Int)), (8, .slice A102 ((doneL (addL l (addE (max most 0) l.length e 0 x18.B.l.length) x18.B.l) (addE (max most 0) l.length e 0 x18.B.l.length)).length) c102), (10, .int .i64 (IntKind.i64.wrap ((k : Int) + 1)))] (by kernel_rfl) ?_
                rw [show IntKind.i64.wrap ((k : Int) + 1) = ((k : Int) + 1) from w64 (by omega)]
                refine leR (k + 1, (m.set k (m.getD k 0 + 1))) (by dsimp only; omega) ⟨by dsimp only; omega, by dsimp only; rw [List.length_set]; exact hm, hd133, hd134, hn135, hn136, hn148, hg138, hg139, hap140, hF⟩ (by kernel_rfl)
              · rw [hb143]
                have h143 := of_decide_eq_false hb143
                refine seg 8 [.le 0, .bl 0, .co [1, 1, 1, 1, 1]] [(1, .slice s.A s.l.length s.c), (5, .pointer (some (⟨g4, 0, none⟩))), (6, .pointer (some (⟨g5, 0, none⟩))), (7, .int .i64 (IntKind.i64.wrap ((i : Int) + 1)))] (by kernel_rfl) ?_
                rw [show IntKind.i64.wrap ((i : Int) + 1) = ((i : Int) + 1) from w64 (by omega)]
                refine leR_up (k' := []) (by rfl) ?_
                refine leR (i + 1, (addL l (addE (max most 0) l.length e 0 x18.B.l.length) x18.B.l), (addE (max most 0) l.length e 0 x18.B.l.length), A96, c96, A30, c30) (by dsimp only; omega) ⟨by dsimp only; omega, by dsimp only; omega, hd133, hn136, hn135, hg138, hg139, hap140, hF⟩ (by kernel_rfl)
          · rw [hb94]
            have h94 : x18.Do ≠ 1 := by simpa using hb94
            refine seg 5 [.op [1, 1, 1, 1, 0, 1, 0, 0, 1, 0, 0, 1, 1, 0, 1, 0, 1, 1, 1, 1] 3, .bl 2, .co [1, 1, 1, 1, 0, 1, 0, 0, 1, 0, 0, 1, 1, 1], .bl 1, .co [1, 1, 1, 1, 0, 1, 0, 0, 1, 1], .le 0, .bl 0, .co [1, 1, 1, 1, 1]] [(1, .slice s.A s.l.length s.c), (5, .pointer (some (⟨g4, 0, none⟩))), (6, .pointer (some (⟨g5, 0, none⟩))), (7, .int .i64 (i : Int)), (44, .pointer (some (⟨g4, 0, none⟩))), (45, .slice s.A s.l.length s.c), (46, .int .i64 (i : Int))] (by kernel_rfl) ?_
            obtain ⟨ad151, ea151, l1151, l2151, ca151⟩ := Cs.row (Sls.Ok.cs hd8_34) (n := 4) rfl (by decide) hx18
            refine st (idxR (some 47) 50 56 4 s.A ad151 s.l.length s.c .i64 (i : Int) (i * 4) ea151 (by kernel_rfl) (by kernel_rfl) (by omega) (by omega) (by omega) ?_)
            refine seg 1 [.op [1, 1, 1, 1, 0, 1, 0, 0, 1, 0, 0, 1, 1, 0, 1, 0, 1, 1, 1, 1] 5, .bl 2, .co [1, 1, 1, 1, 0, 1, 0, 0, 1, 0, 0, 1, 1, 1], .bl 1, .co [1, 1, 1, 1, 0, 1, 0, 0, 1, 1], .le 0, .bl 0, .co [1, 1, 1, 1, 1]] [(1, .slice s.A s.l.length s.c), (5, .pointer (some (⟨g4, 0, none⟩))), (6, .pointer (some (⟨g5, 0, none⟩))), (7, .int .i64 (i : Int)), (44, .pointer (some (⟨g4, 0, none⟩))), (48, .pointer (some ((ad151.add (i * 4)).add 3)))] (by kernel_rfl) ?_
            refine st (ldR (some 49) 22 ((ad151.add (i * 4)).add 3) (.slice x18.B.A x18.B.l.length x18.B.c) (by kernel_rfl) (by kernel_rfl) (ca151 3 _ rfl) ?_)
            rw [show actX x18.Do x18.N x18.V x18.B.l = enc 2 x18.B.l.length ++ x18.B.l from by simp [actX, h36, h94]] at hn30_34 hg34
            rw [show actE1 x18.Do x18.N x18.V x18.B.l = if x18.B.l.length > 65535 then 9 else 0 from by simp [actE1, h36, h94]] at hn30_34 hg34
            rw [show actM x18.Do x18.N x18.B.l = x18.B.l.length + 2 from by simp [actM, h36, h94]] at hn30_34 hg34
            have hlx153 : (x18.B.l).length = x18.B.l.length := (by first | rfl | omega | (simp; omega))
            have hll152 : (l).length = l.length := (by first | rfl | omega | (simp; omega))
            have hlt154 := own_lt hn9_34
            have hlt155 := own_lt hn30_34
            refine st (callR (some 50) 34 #[.pointer (some (⟨g4, 0, none⟩)), .slice x18.B.A x18.B.l.length x18.B.c] Try.call34 (wtext_c w34 g4 (g5 + 1) l.length c1 A1 (max most 0) e hg11_34 hn9_34 (by omega) (by omega) (by omega) x18.B.A x18.B.l.length x18.B.c (Sls.Ok.bcs ox18_34.B) hlx153 (by omega) (by omega) (fun k hk => .inr (by have := own_ge (by assumption) hk; omega))) (by kernel_rfl) ?_)
            rintro _ w152 ⟨A152, c152, rfl, hg152, hn152, hW152⟩
            have hz152 := hW152.kp.size
            have hc152 := own_cap hn152
            replace hn30_34 := own_kp hn30_34 hW152.kp (fun k hk e => by have h1 := own_ge hn30_34 hk.symm; rcases e with e | e <;> first | omega | cases e | (have h2 := own_ge hn9_34 e; omega) | (have h2 := own_ge hn9_34 e; have h3 := hlt155 k hk.symm; omega) | (have h2 := hlt31 k e; omega) | (have h2 := hlt154 k e; omega) | exact absurd hk.symm (hap33 _ _ _ _ k e))
            replace hd8_34 : Sls.Ok _ _ _ s := Dat.kp (a := s) hd8_34 hW152.kp (fun k hk => by rcases hk with hk | hk <;> first | omega | exact .inr (by have := own_ge hn9_34 hk; omega) | cases hk | exact .inl (by have := hlt31 k hk; omega) | exact .inl (by have := hlt154 k hk; omega))
            replace ox18_34 : TAct.Ok _ _ _ x18 := Dat.kp (a := x18) ox18_34 hW152.kp (fun k hk => by rcases hk with hk | hk <;> first | omega | exact .inr (by have := own_ge hn9_34 hk; omega) | cases hk | exact .inl (by have := hlt31 k hk; omega) | exact .inl (by have := hlt154 k hk; omega))
            replace hg34 := hW152.kp.blk hg34 (fun e => by rcases e with e | e <;> first | omega | cases e | (have := own_ge hn9_34 e; omega) | (have := hlt31 _ e; omega) | (have := hlt154 _ e; omega))
            replace hF := hF.step hW152.kp (fun k hk hlt => (by rcases hk with hk | hk <;> first | omega | cases hk | (have := own_ge hn9_34 hk; omega)))
            have hap156 := (Apart.to_r hap33.symm hlt155 hW152.at_).symm
            have hlen := addL_len l (addE (max most 0) l.length e (if x18.B.l.length > 65535 then 9 else 0) (x18.B.l.length + 2)) (enc 2 x18.B.l.length ++ x18.B.l)
            rw [List.length_append, enc_length] at hlen
            refine seg 5 [.op [1, 1, 1, 1, 0, 1, 0, 0, 1, 0, 0, 1, 1, 1, 0] 1, .co [1, 1, 1, 1, 0, 1, 0, 0, 1, 0, 0, 1, 1, 1, 1], .bl 1, .co [1, 1, 1, 1, 0, 1, 0, 0, 1, 1], .le 0, .bl 0, .co [1, 1, 1, 1, 1]] [(1, .slice s.A s.l.length s.c), (5, .pointer (some (⟨g4, 0, none⟩))), (6, .pointer (some (⟨g5, 0, none⟩))), (7, .int .i64 (i : Int)), (75, .pointer (some (⟨g4, 0, none⟩)))] (by kernel_rfl) ?_
            have hll157 : ((addL l (addE (max most 0) l.length e (if x18.B.l.length > 65535 then 9 else 0) (x18.B.l.length + 2)) (enc 2 x18.B.l.length ++ x18.B.l))).length = (addL l (addE (max most 0) l.length e (if x18.B.l.length > 65535 then 9 else 0) (x18.B.l.length + 2)) (enc 2 x18.B.l.length ++ x18.B.l)).length := (by first | rfl | omega | (simp; omega))
            have hlt159 := own_lt hn30_34
            have hlt160 := own_lt hn152
            refine st (callR (some 76) 35 #[.pointer (some (⟨g4, 0, none⟩))] Try.call35 (wdone_c w152 g4 A152 ((addL l (addE (max most 0) l.length e (if x18.B.l.length > 65535 then 9 else 0) (x18.B.l.length + 2)) (enc 2 x18.B.l.length ++ x18.B.l)).length) c152 (max most 0) (addE (max most 0) l.length e (if x18.B.l.length > 65535 then 9 else 0) (x18.B.l.length + 2)) hg152 (Cs.of_own hn152) hll157 (by omega)) (by kernel_rfl) ?_)
            rintro _ w158 ⟨A158, c158, rfl, hx158, hn158⟩
            have hz158 := hx158.size
            have hc158 := own_cap hn158
            replace hn30_34 := own_ex hn30_34 hx158
            replace hn152 := own_ex hn152 hx158
            replace hd8_34 : Sls.Ok _ _ _ s := Dat.kp (a := s) hd8_34 hx158 (fun _ e => e.elim)
            replace ox18_34 : TAct.Ok _ _ _ x18 := Dat.kp (a := x18) ox18_34 hx158 (fun _ e => e.elim)
            replace hg152 := hx158.blk hg152 (fun e => e)
            replace hg34 := hx158.blk hg34 (fun e => e)
            replace hF := hF.ex hx158
            refine seg 8 [.co [1, 1, 1, 1, 0, 1, 0, 0, 1, 0, 0, 1, 1, 1, 1, 0, 0], .co [1, 1, 1, 1, 0, 1, 0, 0, 1, 0, 0, 1, 1, 1, 1, 0, 1], .co [1, 1, 1, 1, 0, 1, 0, 0, 1, 0, 0, 1, 1, 1, 1, 1], .bl 1, .co [1, 1, 1, 1, 0, 1, 0, 0, 1, 1], .le 0, .bl 0, .co [1, 1, 1, 1, 1]] [(1, .slice s.A s.l.length s.c), (5, .pointer (some (⟨g4, 0, none⟩))), (6, .pointer (some (⟨g5, 0, none⟩))), (7, .int .i64 (i : Int)), (8, .slice A158 ((doneL (addL l (addE (max most 0) l.length e (if x18.B.l.length > 65535 then 9 else 0) (x18.B.l.length + 2)) (enc 2 x18.B.l.length ++ x18.B.l)) (addE (max most 0) l.length e (if x18.B.l.length > 65535 then 9 else 0) (x18.B.l.length + 2))).length) c158), (9, .int .i64 (addE (max most 0) l.length e (if x18.B.l.length > 65535 then 9 else 0) (x18.B.l.length + 2)))] (by kernel_rfl) ?_
            refine drawT (fun _ => False) (by kernel_rfl) (by kernel_rfl) ?_
            intro w161 hx161 hz161
            have hn30_161 := hn30_34
            have hn152_161 := hn152
            have hn158_161 := hn158
            have hg152_161 := hg152
            have hg34_161 := hg34
            have hd8_161 := hd8_34
            have ox18_161 := ox18_34
            replace hn30_161 := own_ex hn30_161 hx161
            replace hn152_161 := own_ex hn152_161 hx161
            replace hn158_161 := own_ex hn158_161 hx161
            replace hd8_161 : Sls.Ok _ _ _ s := Dat.kp (a := s) hd8_161 hx161 (fun _ e => e.elim)
            replace ox18_161 : TAct.Ok _ _ _ x18 := Dat.kp (a := x18) ox18_161 hx161 (fun _ e => e.elim)
            replace hg152_161 := hx161.blk hg152_161 (fun e => e)
            replace hg34_161 := hx161.blk hg34_161 (fun e => e)
            replace hF := hF.ex hx161
            have hS161 := Kp.refl (fun _ => False) w161
            refine segD [0, 2] [0, 2] [(1, .slice s.A s.l.length s.c), (5, .pointer (some (⟨g4, 0, none⟩))), (6, .pointer (some (⟨g5, 0, none⟩))), (7, .int .i64 (i : Int)), (8, .slice A158 ((doneL (addL l (addE (max most 0) l.length e (if x18.B.l.length > 65535 then 9 else 0) (x18.B.l.length + 2)) (enc 2 x18.B.l.length ++ x18.B.l)) (addE (max most 0) l.length e (if x18.B.l.length > 65535 then 9 else 0) (x18.B.l.length + 2))).length) c158), (79, .int .i64 (addE (max most 0) l.length e (if x18.B.l.length > 65535 then 9 else 0) (x18.B.l.length + 2))), (81, .pointer (some (⟨g5, 2, none⟩)))] (by kernel_rfl) ?_
            refine takeD (i := 3) (d := (some 82)) (s := vS (Instr.loadAt 3 (.pointer (some (⟨g5, 2, none⟩))))) (v := .int .i64 (addE (max most 0) l.length e (if x18.B.l.length > 65535 then 9 else 0) (x18.B.l.length + 2))) (by kernel_rfl) (by kernel_rfl) (fun w' hw' => ld_run _ _ _ (by kernel_rfl) (hw'.cell (blk_cell hg34_161 rfl) (fun e => e))) ?_
            have hlt162 := own_lt hn30_161
            have hlt163 := own_lt hn152_161
            have hlt164 := own_lt hn158_161
            refine stD (i := 1) (by kernel_rfl) hS161 (callR (some 80) 18 #[.int .i64 (addE (max most 0) l.length e (if x18.B.l.length > 65535 then 9 else 0) (x18.B.l.length + 2))] Try.call18 (num_c w161 (addE (max most 0) l.length e (if x18.B.l.length > 65535 then 9 else 0) (x18.B.l.length + 2))) (by kernel_rfl) ?_)
            rintro _ _ ⟨rfl, rfl⟩
            refine segD [4, 5] [0, 2, 3, 1, 4, 5] [(1, .slice s.A s.l.length s.c), (5, .pointer (some (⟨g4, 0, none⟩))), (6, .pointer (some (⟨g5, 0, none⟩))), (7, .int .i64 (i : Int)), (8, .slice A158 ((doneL (addL l (addE (max most 0) l.length e (if x18.B.l.length > 65535 then 9 else 0) (x18.B.l.length + 2)) (enc 2 x18.B.l.length ++ x18.B.l)) (addE (max most 0) l.length e (if x18.B.l.length > 65535 then 9 else 0) (x18.B.l.length + 2))).length) c158), (84, .bool ((addE (max most 0) l.length e (if x18.B.l.length > 65535 then 9 else 0) (x18.B.l.length + 2)) != (addE (max most 0) l.length e (if x18.B.l.length > 65535 then 9 else 0) (x18.B.l.length + 2))))] (by kernel_rfl) ?_
            rw [show ((addE (max most 0) l.length e (if x18.B.l.length > 65535 then 9 else 0) (x18.B.l.length + 2)) != (addE (max most 0) l.length e (if x18.B.l.length > 65535 then 9 else 0) (x18.B.l.length + 2))) = false from by simp]
            refine segD [6, 8] [0, 2, 3, 1, 4, 5, 6, 8] [(1, .slice s.A s.l.length s.c), (5, .pointer (some (⟨g4, 0, none⟩))), (6, .pointer (some (⟨g5, 0, none⟩))), (7, .int .i64 (i : Int)), (8, .slice A158 ((doneL (addL l (addE (max most 0) l.length e (if x18.B.l.length > 65535 then 9 else 0) (x18.B.l.length + 2)) (enc 2 x18.B.l.length ++ x18.B.l)) (addE (max most 0) l.length e (if x18.B.l.length > 65535 then 9 else 0) (x18.B.l.length + 2))).length) c158), (84, .bool false), (85, .pointer (some (⟨g4, 0, none⟩))), (87, .pointer (some (⟨g5, 0, none⟩)))] (by kernel_rfl) ?_
            refine takeD (i := 9) (d := (some 88)) (s := vS (Instr.loadAt 22 (.pointer (some (⟨g5, 0, none⟩))))) (v := .slice A30 ((addL l (addE (max most 0) l.length e (if x18.B.l.length > 65535 then 9 else 0) (x18.B.l.length + 2)) (enc 2 x18.B.l.length ++ x18.B.l)).length) c30) (by kernel_rfl) (by kernel_rfl) (fun w' hw' => ld_run _ _ _ (by kernel_rfl) (hw'.cell (blk_cell hg34_161 rfl) (fun e => e))) ?_
            refine segD [10] [0, 2, 3, 1, 4, 5, 6, 8, 9, 10] [(1, .slice s.A s.l.length s.c), (5, .pointer (some (⟨g4, 0, none⟩))), (6, .pointer (some (⟨g5, 0, none⟩))), (7, .int .i64 (i : Int)), (8, .slice A158 ((doneL (addL l (addE (max most 0) l.length e (if x18.B.l.length > 65535 then 9 else 0) (x18.B.l.length + 2)) (enc 2 x18.B.l.length ++ x18.B.l)) (addE (max most 0) l.length e (if x18.B.l.length > 65535 then 9 else 0) (x18.B.l.length + 2))).length) c158), (84, .bool false), (85, .pointer (some (⟨g4, 0, none⟩))), (89, .int .i64 ((addL l (addE (max most 0) l.length e (if x18.B.l.length > 65535 then 9 else 0) (x18.B.l.length + 2)) (enc 2 x18.B.l.length ++ x18.B.l)).length : Int))] (by kernel_rfl) ?_
            have hlt165 := own_lt hn30_161
            have hlt166 := own_lt hn152_161
            have hlt167 := own_lt hn158_161
            refine stD (i := 7) (by kernel_rfl) hS161 (callR (some 86) 36 #[.pointer (some (⟨g4, 0, none⟩))] Try.call36 (wlen_c w161 g4 A152 ((addL l (addE (max most 0) l.length e (if x18.B.l.length > 65535 then 9 else 0) (x18.B.l.length + 2)) (enc 2 x18.B.l.length ++ x18.B.l)).length) c152 (max most 0) (addE (max most 0) l.length e (if x18.B.l.length > 65535 then 9 else 0) (x18.B.l.length + 2)) hg152_161) (by kernel_rfl) ?_)
            rintro _ _ ⟨rfl, rfl⟩
            refine segD [11, 12, 13] [0, 2, 3, 1, 4, 5, 6, 8, 9, 10, 7, 11, 12, 13] [(1, .slice s.A s.l.length s.c), (5, .pointer (some (⟨g4, 0, none⟩))), (6, .pointer (some (⟨g5, 0, none⟩))), (7, .int .i64 (i : Int)), (8, .slice A158 ((doneL (addL l (addE (max most 0) l.length e (if x18.B.l.length > 65535 then 9 else 0) (x18.B.l.length + 2)) (enc 2 x18.B.l.length ++ x18.B.l)) (addE (max most 0) l.length e (if x18.B.l.length > 65535 then 9 else 0) (x18.B.l.length + 2))).length) c158), (92, .bool (((addL l (addE (max most 0) l.length e (if x18.B.l.length > 65535 then 9 else 0) (x18.B.l.length + 2)) (enc 2 x18.B.l.length ++ x18.B.l)).length : Int) != ((addL l (addE (max most 0) l.length e (if x18.B.l.length > 65535 then 9 else 0) (x18.B.l.length + 2)) (enc 2 x18.B.l.length ++ x18.B.l)).length : Int)))] (by kernel_rfl) ?_
            rw [show (((addL l (addE (max most 0) l.length e (if x18.B.l.length > 65535 then 9 else 0) (x18.B.l.length + 2)) (enc 2 x18.B.l.length ++ x18.B.l)).length : Int) != ((addL l (addE (max most 0) l.length e (if x18.B.l.length > 65535 then 9 else 0) (x18.B.l.length + 2)) (enc 2 x18.B.l.length ++ x18.B.l)).length : Int)) = false from by simp]
            refine segD [14] [0, 2, 3, 1, 4, 5, 6, 8, 9, 10, 7, 11, 12, 13, 14] [(1, .slice s.A s.l.length s.c), (5, .pointer (some (⟨g4, 0, none⟩))), (6, .pointer (some (⟨g5, 0, none⟩))), (7, .int .i64 (i : Int)), (8, .slice A158 ((doneL (addL l (addE (max most 0) l.length e (if x18.B.l.length > 65535 then 9 else 0) (x18.B.l.length + 2)) (enc 2 x18.B.l.length ++ x18.B.l)) (addE (max most 0) l.length e (if x18.B.l.length > 65535 then 9 else 0) (x18.B.l.length + 2))).length) c158), (92, .bool false), (93, .pointer (some (⟨g5, 2, none⟩)))] (by kernel_rfl) ?_
            refine stD (i := 15) (by kernel_rfl) hS161 (ldR (some 94) 3 (⟨g5, 2, none⟩) (.int .i64 (addE (max most 0) l.length e (if x18.B.l.length > 65535 then 9 else 0) (x18.B.l.length + 2))) (by kernel_rfl) (by kernel_rfl) (blk_cell hg34_161 rfl) ?_)
            refine segD [16, 17] [0, 2, 3, 1, 4, 5, 6, 8, 9, 10, 7, 11, 12, 13, 14, 15, 16, 17] [(1, .slice s.A s.l.length s.c), (5, .pointer (some (⟨g4, 0, none⟩))), (6, .pointer (some (⟨g5, 0, none⟩))), (7, .int .i64 (i : Int)), (8, .slice A158 ((doneL (addL l (addE (max most 0) l.length e (if x18.B.l.length > 65535 then 9 else 0) (x18.B.l.length + 2)) (enc 2 x18.B.l.length ++ x18.B.l)) (addE (max most 0) l.length e (if x18.B.l.length > 65535 then 9 else 0) (x18.B.l.length + 2))).length) c158), (92, .bool false), (96, .bool ((addE (max most 0) l.length e (if x18.B.l.length > 65535 then 9 else 0) (x18.B.l.length + 2)) == 0))] (by kernel_rfl) ?_
            rcases bsplit ((addE (max most 0) l.length e (if x18.B.l.length > 65535 then 9 else 0) (x18.B.l.length + 2)) == 0) with hb168 | hb168
            · rw [hb168]
              have h168 : (addE (max most 0) l.length e (if x18.B.l.length > 65535 then 9 else 0) (x18.B.l.length + 2)) = 0 := by simpa using hb168
              refine segD [18, 20] [0, 2, 3, 1, 4, 5, 6, 8, 9, 10, 7, 11, 12, 13, 14, 15, 16, 17, 18, 20] [(1, .slice s.A s.l.length s.c), (5, .pointer (some (⟨g4, 0, none⟩))), (6, .pointer (some (⟨g5, 0, none⟩))), (7, .int .i64 (i : Int)), (8, .slice A158 ((doneL (addL l (addE (max most 0) l.length e (if x18.B.l.length > 65535 then 9 else 0) (x18.B.l.length + 2)) (enc 2 x18.B.l.length ++ x18.B.l)) (addE (max most 0) l.length e (if x18.B.l.length > 65535 then 9 else 0) (x18.B.l.length + 2))).length) c158), (92, .bool false), (96, .bool true), (97, .slice A158 ((doneL (addL l (addE (max most 0) l.length e (if x18.B.l.length > 65535 then 9 else 0) (x18.B.l.length + 2)) (enc 2 x18.B.l.length ++ x18.B.l)) (addE (max most 0) l.length e (if x18.B.l.length > 65535 then 9 else 0) (x18.B.l.length + 2))).length) c158), (99, .pointer (some (⟨g5, 0, none⟩)))] (by kernel_rfl) ?_
              refine takeD (i := 19) (d := (some 98)) (s := vS (convert 22 9 (.slice A158 ((doneL (addL l (addE (max most 0) l.length e (if x18.B.l.length > 65535 then 9 else 0) (x18.B.l.length + 2)) (enc 2 x18.B.l.length ++ x18.B.l)) (addE (max most 0) l.length e (if x18.B.l.length > 65535 then 9 else 0) (x18.B.l.length + 2))).length) c158))) (v := .string (⟨(doneL (addL l (addE (max most 0) l.length e (if x18.B.l.length > 65535 then 9 else 0) (x18.B.l.length + 2)) (enc 2 x18.B.l.length ++ x18.B.l)) (addE (max most 0) l.length e (if x18.B.l.length > 65535 then 9 else 0) (x18.B.l.length + 2))).toArray⟩)) (by kernel_rfl) (by kernel_rfl) (fun w' hw' => b2s_run _ _ 5 _ _ _ _ Try.underlying22 Try.underlying5 Try.underlying9 (Cs.kp (Cs.of_own hn158_161) hw' (fun _ e => e.elim)) (by first | rfl | omega | (simp; done) | (simp; omega))) ?_
              refine stD (i := 21) (by kernel_rfl) hS161 (ldR (some 100) 22 (⟨g5, 0, none⟩) (.slice A30 ((addL l (addE (max most 0) l.length e (if x18.B.l.length > 65535 then 9 else 0) (x18.B.l.length + 2)) (enc 2 x18.B.l.length ++ x18.B.l)).length) c30) (by kernel_rfl) (by kernel_rfl) (blk_cell hg34_161 rfl) ?_)
              refine stD (i := 22) (by kernel_rfl) hS161 (b2sR (some 101) 22 9 5 A30 ((addL l (addE (max most 0) l.length e (if x18.B.l.length > 65535 then 9 else 0) (x18.B.l.length + 2)) (enc 2 x18.B.l.length ++ x18.B.l)).length) c30 (addL l (addE (max most 0) l.length e (if x18.B.l.length > 65535 then 9 else 0) (x18.B.l.length + 2)) (enc 2 x18.B.l.length ++ x18.B.l)) Try.underlying22 Try.underlying5 Try.underlying9 (by kernel_rfl) (Cs.of_own hn30_161) (by first | rfl | omega | (simp; done) | (simp; omega)) ?_)
              refine segD [23, 24, 25, 26] [0, 2, 3, 1, 4, 5, 6, 8, 9, 10, 7, 11, 12, 13, 14, 15, 16, 17, 18, 20, 19, 21, 22, 23, 24, 25, 26] [(1, .slice s.A s.l.length s.c), (5, .pointer (some (⟨g4, 0, none⟩))), (6, .pointer (some (⟨g5, 0, none⟩))), (7, .int .i64 (i : Int)), (8, .slice A158 ((doneL (addL l (addE (max most 0) l.length e (if x18.B.l.length > 65535 then 9 else 0) (x18.B.l.length + 2)) (enc 2 x18.B.l.length ++ x18.B.l)) (addE (max most 0) l.length e (if x18.B.l.length > 65535 then 9 else 0) (x18.B.l.length + 2))).length) c158), (105, .bool (!(ByteArray.toList (⟨(doneL (addL l (addE (max most 0) l.length e (if x18.B.l.length > 65535 then 9 else 0) (x18.B.l.length + 2)) (enc 2 x18.B.l.length ++ x18.B.l)) (addE (max most 0) l.length e (if x18.B.l.length > 65535 then 9 else 0) (x18.B.l.length + 2))).toArray⟩) == ByteArray.toList (⟨(addL l (addE (max most 0) l.length e (if x18.B.l.length > 65535 then 9 else 0) (x18.B.l.length + 2)) (enc 2 x18.B.l.length ++ x18.B.l)).toArray⟩))))] (by kernel_rfl) ?_
              rw [show (ByteArray.toList (⟨(doneL (addL l (addE (max most 0) l.length e (if x18.B.l.length > 65535 then 9 else 0) (x18.B.l.length + 2)) (enc 2 x18.B.l.length ++ x18.B.l)) (addE (max most 0) l.length e (if x18.B.l.length > 65535 then 9 else 0) (x18.B.l.length + 2))).toArray⟩) == ByteArray.toList (⟨(addL l (addE (max most 0) l.length e (if x18.B.l.length > 65535 then 9 else 0) (x18.B.l.length + 2)) (enc 2 x18.B.l.length ++ x18.B.l)).toArray⟩)) = true from streq_t (by simp only [doneL, h168, if_true])]
              refine segD [27] [0, 2, 3, 1, 4, 5, 6, 8, 9, 10, 7, 11, 12, 13, 14, 15, 16, 17, 18, 20, 19, 21, 22, 23, 24, 25, 26, 27] [(1, .slice s.A s.l.length s.c), (5, .pointer (some (⟨g4, 0, none⟩))), (6, .pointer (some (⟨g5, 0, none⟩))), (7, .int .i64 (i : Int)), (8, .slice A158 ((doneL (addL l (addE (max most 0) l.length e (if x18.B.l.length > 65535 then 9 else 0) (x18.B.l.length + 2)) (enc 2 x18.B.l.length ++ x18.B.l)) (addE (max most 0) l.length e (if x18.B.l.length > 65535 then 9 else 0) (x18.B.l.length + 2))).length) c158), (105, .bool false), (106, .pointer (some (⟨g5, 2, none⟩)))] (by kernel_rfl) ?_
              refine stD (i := 28) (by kernel_rfl) hS161 (ldR (some 107) 3 (⟨g5, 2, none⟩) (.int .i64 (addE (max most 0) l.length e (if x18.B.l.length > 65535 then 9 else 0) (x18.B.l.length + 2))) (by kernel_rfl) (by kernel_rfl) (blk_cell hg34_161 rfl) ?_)
              refine segD [29, 30] [0, 2, 3, 1, 4, 5, 6, 8, 9, 10, 7, 11, 12, 13, 14, 15, 16, 17, 18, 20, 19, 21, 22, 23, 24, 25, 26, 27, 28, 29, 30] [(1, .slice s.A s.l.length s.c), (5, .pointer (some (⟨g4, 0, none⟩))), (6, .pointer (some (⟨g5, 0, none⟩))), (7, .int .i64 (i : Int)), (8, .slice A158 ((doneL (addL l (addE (max most 0) l.length e (if x18.B.l.length > 65535 then 9 else 0) (x18.B.l.length + 2)) (enc 2 x18.B.l.length ++ x18.B.l)) (addE (max most 0) l.length e (if x18.B.l.length > 65535 then 9 else 0) (x18.B.l.length + 2))).length) c158), (105, .bool false), (109, .bool ((addE (max most 0) l.length e (if x18.B.l.length > 65535 then 9 else 0) (x18.B.l.length + 2)) != 0))] (by kernel_rfl) ?_
              rw [show ((addE (max most 0) l.length e (if x18.B.l.length > 65535 then 9 else 0) (x18.B.l.length + 2)) != 0) = false from beq_bne hb168]
              refine segD [31, 32, 33, 34, 35] [0, 2, 3, 1, 4, 5, 6, 8, 9, 10, 7, 11, 12, 13, 14, 15, 16, 17, 18, 20, 19, 21, 22, 23, 24, 25, 26, 27, 28, 29, 30, 31, 32, 33, 34, 35] [(1, .slice s.A s.l.length s.c), (5, .pointer (some (⟨g4, 0, none⟩))), (6, .pointer (some (⟨g5, 0, none⟩))), (7, .int .i64 (i : Int)), (8, .slice A158 ((doneL (addL l (addE (max most 0) l.length e (if x18.B.l.length > 65535 then 9 else 0) (x18.B.l.length + 2)) (enc 2 x18.B.l.length ++ x18.B.l)) (addE (max most 0) l.length e (if x18.B.l.length > 65535 then 9 else 0) (x18.B.l.length + 2))).length) c158), (114, .bool false)] (by kernel_rfl) ?_
              refine endD (by kernel_rfl) hS161 ?_
              refine seg 7 [.co [1, 1, 1, 1, 0, 1, 0, 0, 1, 0, 0, 1, 1, 1, 1, 1, 1, 0], .bl 3, .bl 1, .co [1, 1, 1, 1, 0, 1, 0, 0, 1, 1], .le 0, .bl 0, .co [1, 1, 1, 1, 1]] [(1, .slice s.A s.l.length s.c), (5, .pointer (some (⟨g4, 0, none⟩))), (6, .pointer (some (⟨g5, 0, none⟩))), (7, .int .i64 (i : Int)), (8, .slice A158 ((doneL (addL l (addE (max most 0) l.length e (if x18.B.l.length > 65535 then 9 else 0) (x18.B.l.length + 2)) (enc 2 x18.B.l.length ++ x18.B.l)) (addE (max most 0) l.length e (if x18.B.l.length > 65535 then 9 else 0) (x18.B.l.length + 2))).length) c158), (10, .int .i64 0)] (by kernel_rfl) ?_
              refine loopR 1 (fun (x : Nat × List UInt8) => [(1, .slice s.A s.l.length s.c), (5, .pointer (some (⟨g4, 0, none⟩))), (6, .pointer (some (⟨g5, 0, none⟩))), (7, .int .i64 (i : Int)), (8, .slice A158 ((doneL (addL l (addE (max most 0) l.length e (if x18.B.l.length > 65535 then 9 else 0) (x18.B.l.length + 2)) (enc 2 x18.B.l.length ++ x18.B.l)) (addE (max most 0) l.length e (if x18.B.l.length > 65535 then 9 else 0) (x18.B.l.length + 2))).length) c158), (10, .int .i64 (x.1 : Int))]) (fun (x : Nat × List UInt8) (wl169 : World) => x.1 ≤ (doneL (addL l (addE (max most 0) l.length e (if x18.B.l.length > 65535 then 9 else 0) (x18.B.l.length + 2)) (enc 2 x18.B.l.length ++ x18.B.l)) (addE (max most 0) l.length e (if x18.B.l.length > 65535 then 9 else 0) (x18.B.l.length + 2))).length ∧ x.2.length = (doneL (addL l (addE (max most 0) l.length e (if x18.B.l.length > 65535 then 9 else 0) (x18.B.l.length + 2)) (enc 2 x18.B.l.length ++ x18.B.l)) (addE (max most 0) l.length e (if x18.B.l.length > 65535 then 9 else 0) (x18.B.l.length + 2))).length ∧ Sls.Ok 0 w.heap.size wl169 s ∧ TAct.Ok 0 w.heap.size wl169 x18 ∧ wl169.ownsRow (g5 + 1) 5 1 (.slice A30 ((addL l (addE (max most 0) l.length e (if x18.B.l.length > 65535 then 9 else 0) (x18.B.l.length + 2)) (enc 2 x18.B.l.length ++ x18.B.l)).length) c30) ((addL l (addE (max most 0) l.length e (if x18.B.l.length > 65535 then 9 else 0) (x18.B.l.length + 2)) (enc 2 x18.B.l.length ++ x18.B.l)).length) (bs (addL l (addE (max most 0) l.length e (if x18.B.l.length > 65535 then 9 else 0) (x18.B.l.length + 2)) (enc 2 x18.B.l.length ++ x18.B.l))) ∧ wl169.ownsRow (g5 + 1) 5 1 (.slice A152 ((addL l (addE (max most 0) l.length e (if x18.B.l.length > 65535 then 9 else 0) (x18.B.l.length + 2)) (enc 2 x18.B.l.length ++ x18.B.l)).length) c152) ((addL l (addE (max most 0) l.length e (if x18.B.l.length > 65535 then 9 else 0) (x18.B.l.length + 2)) (enc 2 x18.B.l.length ++ x18.B.l)).length) (bs (addL l (addE (max most 0) l.length e (if x18.B.l.length > 65535 then 9 else 0) (x18.B.l.length + 2)) (enc 2 x18.B.l.length ++ x18.B.l))) ∧ wl169.ownsRow w152.heap.size 5 1 (.slice A158 ((doneL (addL l (addE (max most 0) l.length e (if x18.B.l.length > 65535 then 9 else 0) (x18.B.l.length + 2)) (enc 2 x18.B.l.length ++ x18.B.l)) (addE (max most 0) l.length e (if x18.B.l.length > 65535 then 9 else 0) (x18.B.l.length + 2))).length) c158) ((doneL (addL l (addE (max most 0) l.length e (if x18.B.l.length > 65535 then 9 else 0) (x18.B.l.length + 2)) (enc 2 x18.B.l.length ++ x18.B.l)) (addE (max most 0) l.length e (if x18.B.l.length > 65535 then 9 else 0) (x18.B.l.length + 2))).length) (bs x.2) ∧ wl169.heap[g4]? = some (.cells #[.slice A152 ((addL l (addE (max most 0) l.length e (if x18.B.l.length > 65535 then 9 else 0) (x18.B.l.length + 2)) (enc 2 x18.B.l.length ++ x18.B.l)).length) c152, .int .i64 (max most 0), .int .i64 (addE (max most 0) l.length e (if x18.B.l.length > 65535 then 9 else 0) (x18.B.l.length + 2))] 95 (0, 0)) ∧ wl169.heap[g5]? = some (.cells #[.slice A30 ((addL l (addE (max most 0) l.length e (if x18.B.l.length > 65535 then 9 else 0) (x18.B.l.length + 2)) (enc 2 x18.B.l.length ++ x18.B.l)).length) c30, .int .i64 most, .int .i64 (addE (max most 0) l.length e (if x18.B.l.length > 65535 then 9 else 0) (x18.B.l.length + 2))] 54 (0, 0)) ∧ Apart A152 A30 ∧ Ex w wl169) (fun (x : Nat × List UInt8) => (doneL (addL l (addE (max most 0) l.length e (if x18.B.l.length > 65535 then 9 else 0) (x18.B.l.length + 2)) (enc 2 x18.B.l.length ++ x18.B.l)) (addE (max most 0) l.length e (if x18.B.l.length > 65535 then 9 else 0) (x18.B.l.length + 2))).length - x.1) (0, (doneL (addL l (addE (max most 0) l.length e (if x18.B.l.length > 65535 then 9 else 0) (x18.B.l.length + 2)) (enc 2 x18.B.l.length ++ x18.B.l)) (addE (max most 0) l.length e (if x18.B.l.length > 65535 then 9 else 0) (x18.B.l.length + 2)))) (by kernel_rfl) (by kernel_rfl) (by kernel_rfl) ?_ ?_
              · exact ⟨Nat.zero_le _, rfl, hd8_161, ox18_161, hn30_161, hn152_161, hn158_161, hg152_161, hg34_161, hap156, hF⟩
              rintro ⟨k, m⟩ wl169 ⟨hk, hm, hd170, hd171, hn172, hn173, hn174, hg175, hg176, hap177, hF⟩
              try dsimp only at hk
              try dsimp only at hm
              try dsimp only at hd170
              try dsimp only at hd171
              try dsimp only at hn172
              try dsimp only at hn173
              try dsimp only at hn174
              try dsimp only at hg175
              try dsimp only at hg176
              try dsimp only at hap177
              try dsimp only at hF
              have hzwl169 := hF.size
              have hbl178 := blk_lt hg175
              have hbl179 := blk_lt hg176
              refine seg 8 [.co [1, 1, 1, 1, 0, 1, 0, 0, 1, 0, 0, 1, 1, 1, 1, 1, 1, 0, 0, 0, 1], .co [1, 1, 1, 1, 0, 1, 0, 0, 1, 0, 0, 1, 1, 1, 1, 1, 1, 0, 0, 1], .le 1, .bl 3, .bl 1, .co [1, 1, 1, 1, 0, 1, 0, 0, 1, 1], .le 0, .bl 0, .co [1, 1, 1, 1, 1]] [(1, .slice s.A s.l.length s.c), (5, .pointer (some (⟨g4, 0, none⟩))), (6, .pointer (some (⟨g5, 0, none⟩))), (7, .int .i64 (i : Int)), (8, .slice A158 ((doneL (addL l (addE (max most 0) l.length e (if x18.B.l.length > 65535 then 9 else 0) (x18.B.l.length + 2)) (enc 2 x18.B.l.length ++ x18.B.l)) (addE (max most 0) l.length e (if x18.B.l.length > 65535 then 9 else 0) (x18.B.l.length + 2))).length) c158), (10, .int .i64 (k : Int)), (118, .bool (decide ((k : Int) < ((doneL (addL l (addE (max most 0) l.length e (if x18.B.l.length > 65535 then 9 else 0) (x18.B.l.length + 2)) (enc 2 x18.B.l.length ++ x18.B.l)) (addE (max most 0) l.length e (if x18.B.l.length > 65535 then 9 else 0) (x18.B.l.length + 2))).length : Int))))] (by kernel_rfl) ?_
              rcases bsplit (decide ((k : Int) < ((doneL (addL l (addE (max most 0) l.length e (if x18.B.l.length > 65535 then 9 else 0) (x18.B.l.length + 2)) (enc 2 x18.B.l.length ++ x18.B.l)) (addE (max most 0) l.length e (if x18.B.l.length > 65535 then 9 else 0) (x18.B.l.length + 2))).length : Int))) with hb180 | hb180
              · rw [hb180]
                have h180 := of_decide_eq_true hb180
                refine seg 7 [.op [1, 1, 1, 1, 0, 1, 0, 0, 1, 0, 0, 1, 1, 1, 1, 1, 1, 0, 0, 1, 0, 0] 2, .bl 4, .co [1, 1, 1, 1, 0, 1, 0, 0, 1, 0, 0, 1, 1, 1, 1, 1, 1, 0, 0, 1, 1], .le 1, .bl 3, .bl 1, .co [1, 1, 1, 1, 0, 1, 0, 0, 1, 1], .le 0, .bl 0, .co [1, 1, 1, 1, 1]] [(1, .slice s.A s.l.length s.c), (5, .pointer (some (⟨g4, 0, none⟩))), (6, .pointer (some (⟨g5, 0, none⟩))), (7, .int .i64 (i : Int)), (8, .slice A158 ((doneL (addL l (addE (max most 0) l.length e (if x18.B.l.length > 65535 then 9 else 0) (x18.B.l.length + 2)) (enc 2 x18.B.l.length ++ x18.B.l)) (addE (max most 0) l.length e (if x18.B.l.length > 65535 then 9 else 0) (x18.B.l.length + 2))).length) c158), (10, .int .i64 (k : Int)), (121, .slice A158 ((doneL (addL l (addE (max most 0) l.length e (if x18.B.l.length > 65535 then 9 else 0) (x18.B.l.length + 2)) (enc 2 x18.B.l.length ++ x18.B.l)) (addE (max most 0) l.length e (if x18.B.l.length > 65535 then 9 else 0) (x18.B.l.length + 2))).length) c158), (122, .int .i64 (k : Int))] (by kernel_rfl) ?_
                have u182 := UInt8.toNat_lt (m.getD k 0)
                obtain ⟨ad181, ea181, l1181, l2181, ca181⟩ := (Cs.of_own hn174).at2 (bs_get m k (by omega))
                refine st (idxR (some 123) 22 5 1 A158 ad181 ((doneL (addL l (addE (max most 0) l.length e (if x18.B.l.length > 65535 then 9 else 0) (x18.B.l.length + 2)) (enc 2 x18.B.l.length ++ x18.B.l)) (addE (max most 0) l.length e (if x18.B.l.length > 65535 then 9 else 0) (x18.B.l.length + 2))).length) c158 .i64 (k : Int) k ea181 (by kernel_rfl) (by kernel_rfl) (by omega) (by omega) (by omega) ?_)
                refine st (ldR (some 124) 5 (ad181.add k) (.int .u8 ((m.getD k 0).toNat : Int)) (by kernel_rfl) (by kernel_rfl) ca181 ?_)
                refine seg 1 [.op [1, 1, 1, 1, 0, 1, 0, 0, 1, 0, 0, 1, 1, 1, 1, 1, 1, 0, 0, 1, 0, 0] 5, .bl 4, .co [1, 1, 1, 1, 0, 1, 0, 0, 1, 0, 0, 1, 1, 1, 1, 1, 1, 0, 0, 1, 1], .le 1, .bl 3, .bl 1, .co [1, 1, 1, 1, 0, 1, 0, 0, 1, 1], .le 0, .bl 0, .co [1, 1, 1, 1, 1]] [(1, .slice s.A s.l.length s.c), (5, .pointer (some (⟨g4, 0, none⟩))), (6, .pointer (some (⟨g5, 0, none⟩))), (7, .int .i64 (i : Int)), (8, .slice A158 ((doneL (addL l (addE (max most 0) l.length e (if x18.B.l.length > 65535 then 9 else 0) (x18.B.l.length + 2)) (enc 2 x18.B.l.length ++ x18.B.l)) (addE (max most 0) l.length e (if x18.B.l.length > 65535 then 9 else 0) (x18.B.l.length + 2))).length) c158), (10, .int .i64 (k : Int)), (121, .slice A158 ((doneL (addL l (addE (max most 0) l.length e (if x18.B.l.length > 65535 then 9 else 0) (x18.B.l.length + 2)) (enc 2 x18.B.l.length ++ x18.B.l)) (addE (max most 0) l.length e (if x18.B.l.length > 65535 then 9 else 0) (x18.B.l.length + 2))).length) c158), (122, .int .i64 (k : Int)), (125, .int .u8 (IntKind.u8.wrap (((m.getD k 0).toNat : Int) + 1)))] (by kernel_rfl) ?_
                rw [show IntKind.u8.wrap (((m.getD k 0).toNat : Int) + 1) = ((m.getD k 0 + 1).toNat : Int) from wrap_succ _]
                have u184 := UInt8.toNat_lt (m.getD k 0)
                obtain ⟨ad183, ea183, l1183, l2183, ca183⟩ := (Cs.of_own hn174).at2 (bs_get m k (by omega))
                refine st (idxR (some 126) 22 5 1 A158 ad183 ((doneL (addL l (addE (max most 0) l.length e (if x18.B.l.length > 65535 then 9 else 0) (x18.B.l.length + 2)) (enc 2 x18.B.l.length ++ x18.B.l)) (addE (max most 0) l.length e (if x18.B.l.length > 65535 then 9 else 0) (x18.B.l.length + 2))).length) c158 .i64 (k : Int) k ea183 (by kernel_rfl) (by kernel_rfl) (by omega) (by omega) (by omega) ?_)
                have hlt186 := own_lt hn172
                have hlt187 := own_lt hn173
                refine st (stOwnR none 5 w152.heap.size 5 1 A158 ((doneL (addL l (addE (max most 0) l.length e (if x18.B.l.length > 65535 then 9 else 0) (x18.B.l.length + 2)) (enc 2 x18.B.l.length ++ x18.B.l)) (addE (max most 0) l.length e (if x18.B.l.length > 65535 then 9 else 0) (x18.B.l.length + 2))).length) c158 (bs m) ad183 k (.int .u8 ((m.getD k 0 + 1).toNat : Int)) (by kernel_rfl) (by kernel_rfl) rfl hn174 ea183 (by first | (rw [bs_length]; omega) | (simp; omega)) ?_)
                intro w185 hn185 hx185 hz185
                replace hn172 := own_kp hn172 hx185 (fun k hk e => by have h1 := own_ge hn172 hk.symm; first | (have h2 := own_ge hn174 e; omega) | (have h2 := own_ge hn174 e; have h3 := hlt155 k hk.symm; omega) | (have h2 := own_ge hn174 e; have h3 := hlt159 k hk.symm; omega) | (have h2 := own_ge hn174 e; have h3 := hlt162 k hk.symm; omega) | (have h2 := own_ge hn174 e; have h3 := hlt165 k hk.symm; omega) | (have h2 := own_ge hn174 e; have h3 := hlt186 k hk.symm; omega) | (have h2 := hlt164 k e; omega) | (have h2 := hlt167 k e; omega))
                replace hn173 := own_kp hn173 hx185 (fun k hk e => by have h1 := own_ge hn173 hk.symm; first | (have h2 := own_ge hn174 e; omega) | (have h2 := own_ge hn174 e; have h3 := hlt160 k hk.symm; omega) | (have h2 := own_ge hn174 e; have h3 := hlt163 k hk.symm; omega) | (have h2 := own_ge hn174 e; have h3 := hlt166 k hk.symm; omega) | (have h2 := own_ge hn174 e; have h3 := hlt187 k hk.symm; omega) | (have h2 := hlt164 k e; omega) | (have h2 := hlt167 k e; omega))
                replace hd170 : Sls.Ok _ _ _ s := Dat.kp (a := s) hd170 hx185 (fun k hk => by first | exact .inr (by have := own_ge hn174 hk; omega) | exact .inl (by have := hlt164 k hk; omega) | exact .inl (by have := hlt167 k hk; omega))
                replace hd171 : TAct.Ok _ _ _ x18 := Dat.kp (a := x18) hd171 hx185 (fun k hk => by first | exact .inr (by have := own_ge hn174 hk; omega) | exact .inl (by have := hlt164 k hk; omega) | exact .inl (by have := hlt167 k hk; omega))
                replace hg175 := hx185.blk hg175 (fun e => by have := own_ge hn174 e; omega)
                replace hg176 := hx185.blk hg176 (fun e => by have := own_ge hn174 e; omega)
                replace hF := hF.step hx185 (fun k hk hlt => absurd (own_ge hn174 hk) (by omega))
                rw [bs_set] at hn185
                refine seg 7 [.le 1, .bl 3, .bl 1, .co [1, 1, 1, 1, 0, 1, 0, 0, 1, 1], .le 0, .bl 0, .co [1, 1, 1, 1, 1]] [(1, .slice s.A s.l.length s.c), (5, .pointer (some (⟨g4, 0, none⟩))), (6, .pointer (some (⟨g5, 0, none⟩))), (7, .int .i64 (i : Int)), (8, .slice A158 ((doneL (addL l (addE (max most 0) l.length e (if x18.B.l.length > 65535 then 9 else 0) (x18.B.l.length + 2)) (enc 2 x18.B.l.length ++ x18.B.l)) (addE (max most 0) l.length e (if x18.B.l.length > 65535 then 9 else 0) (x18.B.l.length + 2))).length) c158), (10, .int .i64 (IntKind.i64.wrap ((k : Int) + 1)))] (by kernel_rfl) ?_
                rw [show IntKind.i64.wrap ((k : Int) + 1) = ((k : Int) + 1) from w64 (by omega)]
                refine leR (k + 1, (m.set k (m.getD k 0 + 1))) (by dsimp only; omega) ⟨by dsimp only; omega, by dsimp only; rw [List.length_set]; exact hm, hd170, hd171, hn172, hn173, hn185, hg175, hg176, hap177, hF⟩ (by kernel_rfl)
              · rw [hb180]
                have h180 := of_decide_eq_false hb180
                refine seg 8 [.le 0, .bl 0, .co [1, 1, 1, 1, 1]] [(1, .slice s.A s.l.length s.c), (5, .pointer (some (⟨g4, 0, none⟩))), (6, .pointer (some (⟨g5, 0, none⟩))), (7, .int .i64 (IntKind.i64.wrap ((i : Int) + 1)))] (by kernel_rfl) ?_
                rw [show IntKind.i64.wrap ((i : Int) + 1) = ((i : Int) + 1) from w64 (by omega)]
                refine leR_up (k' := []) (by rfl) ?_
                refine leR (i + 1, (addL l (addE (max most 0) l.length e (if x18.B.l.length > 65535 then 9 else 0) (x18.B.l.length + 2)) (enc 2 x18.B.l.length ++ x18.B.l)), (addE (max most 0) l.length e (if x18.B.l.length > 65535 then 9 else 0) (x18.B.l.length + 2)), A152, c152, A30, c30) (by dsimp only; omega) ⟨by dsimp only; omega, by dsimp only; omega, hd170, hn173, hn172, hg175, hg176, hap177, hF⟩ (by kernel_rfl)
            · rw [hb168]
              have h168 : (addE (max most 0) l.length e (if x18.B.l.length > 65535 then 9 else 0) (x18.B.l.length + 2)) ≠ 0 := by simpa using hb168
              refine segD [18, 19, 20, 21, 22, 23, 24, 25, 26, 27] [0, 2, 3, 1, 4, 5, 6, 8, 9, 10, 7, 11, 12, 13, 14, 15, 16, 17, 18, 19, 20, 21, 22, 23, 24, 25, 26, 27] [(1, .slice s.A s.l.length s.c), (5, .pointer (some (⟨g4, 0, none⟩))), (6, .pointer (some (⟨g5, 0, none⟩))), (7, .int .i64 (i : Int)), (8, .slice A158 ((doneL (addL l (addE (max most 0) l.length e (if x18.B.l.length > 65535 then 9 else 0) (x18.B.l.length + 2)) (enc 2 x18.B.l.length ++ x18.B.l)) (addE (max most 0) l.length e (if x18.B.l.length > 65535 then 9 else 0) (x18.B.l.length + 2))).length) c158), (105, .bool false), (106, .pointer (some (⟨g5, 2, none⟩)))] (by kernel_rfl) ?_
              refine stD (i := 28) (by kernel_rfl) hS161 (ldR (some 107) 3 (⟨g5, 2, none⟩) (.int .i64 (addE (max most 0) l.length e (if x18.B.l.length > 65535 then 9 else 0) (x18.B.l.length + 2))) (by kernel_rfl) (by kernel_rfl) (blk_cell hg34_161 rfl) ?_)
              refine segD [29, 30] [0, 2, 3, 1, 4, 5, 6, 8, 9, 10, 7, 11, 12, 13, 14, 15, 16, 17, 18, 19, 20, 21, 22, 23, 24, 25, 26, 27, 28, 29, 30] [(1, .slice s.A s.l.length s.c), (5, .pointer (some (⟨g4, 0, none⟩))), (6, .pointer (some (⟨g5, 0, none⟩))), (7, .int .i64 (i : Int)), (8, .slice A158 ((doneL (addL l (addE (max most 0) l.length e (if x18.B.l.length > 65535 then 9 else 0) (x18.B.l.length + 2)) (enc 2 x18.B.l.length ++ x18.B.l)) (addE (max most 0) l.length e (if x18.B.l.length > 65535 then 9 else 0) (x18.B.l.length + 2))).length) c158), (105, .bool false), (109, .bool ((addE (max most 0) l.length e (if x18.B.l.length > 65535 then 9 else 0) (x18.B.l.length + 2)) != 0))] (by kernel_rfl) ?_
              rw [show ((addE (max most 0) l.length e (if x18.B.l.length > 65535 then 9 else 0) (x18.B.l.length + 2)) != 0) = true from beq_bne hb168]
              refine segD [31, 32, 33, 34, 35] [0, 2, 3, 1, 4, 5, 6, 8, 9, 10, 7, 11, 12, 13, 14, 15, 16, 17, 18, 19, 20, 21, 22, 23, 24, 25, 26, 27, 28, 29, 30, 31, 32, 33, 34, 35] [(1, .slice s.A s.l.length s.c), (5, .pointer (some (⟨g4, 0, none⟩))), (6, .pointer (some (⟨g5, 0, none⟩))), (7, .int .i64 (i : Int)), (8, .slice A158 ((doneL (addL l (addE (max most 0) l.length e (if x18.B.l.length > 65535 then 9 else 0) (x18.B.l.length + 2)) (enc 2 x18.B.l.length ++ x18.B.l)) (addE (max most 0) l.length e (if x18.B.l.length > 65535 then 9 else 0) (x18.B.l.length + 2))).length) c158), (114, .bool (((doneL (addL l (addE (max most 0) l.length e (if x18.B.l.length > 65535 then 9 else 0) (x18.B.l.length + 2)) (enc 2 x18.B.l.length ++ x18.B.l)) (addE (max most 0) l.length e (if x18.B.l.length > 65535 then 9 else 0) (x18.B.l.length + 2))).length : Int) != 0))] (by kernel_rfl) ?_
              refine endD (by kernel_rfl) hS161 ?_
              rw [show (((doneL (addL l (addE (max most 0) l.length e (if x18.B.l.length > 65535 then 9 else 0) (x18.B.l.length + 2)) (enc 2 x18.B.l.length ++ x18.B.l)) (addE (max most 0) l.length e (if x18.B.l.length > 65535 then 9 else 0) (x18.B.l.length + 2))).length : Int) != 0) = false from by simp only [doneL, h168, if_false]; rfl]
              refine seg 7 [.co [1, 1, 1, 1, 0, 1, 0, 0, 1, 0, 0, 1, 1, 1, 1, 1, 1, 0], .bl 3, .bl 1, .co [1, 1, 1, 1, 0, 1, 0, 0, 1, 1], .le 0, .bl 0, .co [1, 1, 1, 1, 1]] [(1, .slice s.A s.l.length s.c), (5, .pointer (some (⟨g4, 0, none⟩))), (6, .pointer (some (⟨g5, 0, none⟩))), (7, .int .i64 (i : Int)), (8, .slice A158 ((doneL (addL l (addE (max most 0) l.length e (if x18.B.l.length > 65535 then 9 else 0) (x18.B.l.length + 2)) (enc 2 x18.B.l.length ++ x18.B.l)) (addE (max most 0) l.length e (if x18.B.l.length > 65535 then 9 else 0) (x18.B.l.length + 2))).length) c158), (10, .int .i64 0)] (by kernel_rfl) ?_
              refine loopR 1 (fun (x : Nat × List UInt8) => [(1, .slice s.A s.l.length s.c), (5, .pointer (some (⟨g4, 0, none⟩))), (6, .pointer (some (⟨g5, 0, none⟩))), (7, .int .i64 (i : Int)), (8, .slice A158 ((doneL (addL l (addE (max most 0) l.length e (if x18.B.l.length > 65535 then 9 else 0) (x18.B.l.length + 2)) (enc 2 x18.B.l.length ++ x18.B.l)) (addE (max most 0) l.length e (if x18.B.l.length > 65535 then 9 else 0) (x18.B.l.length + 2))).length) c158), (10, .int .i64 (x.1 : Int))]) (fun (x : Nat × List UInt8) (wl188 : World) => x.1 ≤ (doneL (addL l (addE (max most 0) l.length e (if x18.B.l.length > 65535 then 9 else 0) (x18.B.l.length + 2)) (enc 2 x18.B.l.length ++ x18.B.l)) (addE (max most 0) l.length e (if x18.B.l.length > 65535 then 9 else 0) (x18.B.l.length + 2))).length ∧ x.2.length = (doneL (addL l (addE (max most 0) l.length e (if x18.B.l.length > 65535 then 9 else 0) (x18.B.l.length + 2)) (enc 2 x18.B.l.length ++ x18.B.l)) (addE (max most 0) l.length e (if x18.B.l.length > 65535 then 9 else 0) (x18.B.l.length + 2))).length ∧ Sls.Ok 0 w.heap.size wl188 s ∧ TAct.Ok 0 w.heap.size wl188 x18 ∧ wl188.ownsRow (g5 + 1) 5 1 (.slice A30 ((addL l (addE (max most 0) l.length e (if x18.B.l.length > 65535 then 9 else 0) (x18.B.l.length + 2)) (enc 2 x18.B.l.length ++ x18.B.l)).length) c30) ((addL l (addE (max most 0) l.length e (if x18.B.l.length > 65535 then 9 else 0) (x18.B.l.length + 2)) (enc 2 x18.B.l.length ++ x18.B.l)).length) (bs (addL l (addE (max most 0) l.length e (if x18.B.l.length > 65535 then 9 else 0) (x18.B.l.length + 2)) (enc 2 x18.B.l.length ++ x18.B.l))) ∧ wl188.ownsRow (g5 + 1) 5 1 (.slice A152 ((addL l (addE (max most 0) l.length e (if x18.B.l.length > 65535 then 9 else 0) (x18.B.l.length + 2)) (enc 2 x18.B.l.length ++ x18.B.l)).length) c152) ((addL l (addE (max most 0) l.length e (if x18.B.l.length > 65535 then 9 else 0) (x18.B.l.length + 2)) (enc 2 x18.B.l.length ++ x18.B.l)).length) (bs (addL l (addE (max most 0) l.length e (if x18.B.l.length > 65535 then 9 else 0) (x18.B.l.length + 2)) (enc 2 x18.B.l.length ++ x18.B.l))) ∧ wl188.ownsRow w152.heap.size 5 1 (.slice A158 ((doneL (addL l (addE (max most 0) l.length e (if x18.B.l.length > 65535 then 9 else 0) (x18.B.l.length + 2)) (enc 2 x18.B.l.length ++ x18.B.l)) (addE (max most 0) l.length e (if x18.B.l.length > 65535 then 9 else 0) (x18.B.l.length + 2))).length) c158) ((doneL (addL l (addE (max most 0) l.length e (if x18.B.l.length > 65535 then 9 else 0) (x18.B.l.length + 2)) (enc 2 x18.B.l.length ++ x18.B.l)) (addE (max most 0) l.length e (if x18.B.l.length > 65535 then 9 else 0) (x18.B.l.length + 2))).length) (bs x.2) ∧ wl188.heap[g4]? = some (.cells #[.slice A152 ((addL l (addE (max most 0) l.length e (if x18.B.l.length > 65535 then 9 else 0) (x18.B.l.length + 2)) (enc 2 x18.B.l.length ++ x18.B.l)).length) c152, .int .i64 (max most 0), .int .i64 (addE (max most 0) l.length e (if x18.B.l.length > 65535 then 9 else 0) (x18.B.l.length + 2))] 95 (0, 0)) ∧ wl188.heap[g5]? = some (.cells #[.slice A30 ((addL l (addE (max most 0) l.length e (if x18.B.l.length > 65535 then 9 else 0) (x18.B.l.length + 2)) (enc 2 x18.B.l.length ++ x18.B.l)).length) c30, .int .i64 most, .int .i64 (addE (max most 0) l.length e (if x18.B.l.length > 65535 then 9 else 0) (x18.B.l.length + 2))] 54 (0, 0)) ∧ Apart A152 A30 ∧ Ex w wl188) (fun (x : Nat × List UInt8) => (doneL (addL l (addE (max most 0) l.length e (if x18.B.l.length > 65535 then 9 else 0) (x18.B.l.length + 2)) (enc 2 x18.B.l.length ++ x18.B.l)) (addE (max most 0) l.length e (if x18.B.l.length > 65535 then 9 else 0) (x18.B.l.length + 2))).length - x.1) (0, (doneL (addL l (addE (max most 0) l.length e (if x18.B.l.length > 65535 then 9 else 0) (x18.B.l.length + 2)) (enc 2 x18.B.l.length ++ x18.B.l)) (addE (max most 0) l.length e (if x18.B.l.length > 65535 then 9 else 0) (x18.B.l.length + 2)))) (by kernel_rfl) (by kernel_rfl) (by kernel_rfl) ?_ ?_
              · exact ⟨Nat.zero_le _, rfl, hd8_161, ox18_161, hn30_161, hn152_161, hn158_161, hg152_161, hg34_161, hap156, hF⟩
              rintro ⟨k, m⟩ wl188 ⟨hk, hm, hd189, hd190, hn191, hn192, hn193, hg194, hg195, hap196, hF⟩
              try dsimp only at hk
              try dsimp only at hm
              try dsimp only at hd189
              try dsimp only at hd190
              try dsimp only at hn191
              try dsimp only at hn192
              try dsimp only at hn193
              try dsimp only at hg194
              try dsimp only at hg195
              try dsimp only at hap196
              try dsimp only at hF
              have hzwl188 := hF.size
              have hbl197 := blk_lt hg194
              have hbl198 := blk_lt hg195
              refine seg 8 [.co [1, 1, 1, 1, 0, 1, 0, 0, 1, 0, 0, 1, 1, 1, 1, 1, 1, 0, 0, 0, 1], .co [1, 1, 1, 1, 0, 1, 0, 0, 1, 0, 0, 1, 1, 1, 1, 1, 1, 0, 0, 1], .le 1, .bl 3, .bl 1, .co [1, 1, 1, 1, 0, 1, 0, 0, 1, 1], .le 0, .bl 0, .co [1, 1, 1, 1, 1]] [(1, .slice s.A s.l.length s.c), (5, .pointer (some (⟨g4, 0, none⟩))), (6, .pointer (some (⟨g5, 0, none⟩))), (7, .int .i64 (i : Int)), (8, .slice A158 ((doneL (addL l (addE (max most 0) l.length e (if x18.B.l.length > 65535 then 9 else 0) (x18.B.l.length + 2)) (enc 2 x18.B.l.length ++ x18.B.l)) (addE (max most 0) l.length e (if x18.B.l.length > 65535 then 9 else 0) (x18.B.l.length + 2))).length) c158), (10, .int .i64 (k : Int)), (118, .bool (decide ((k : Int) < ((doneL (addL l (addE (max most 0) l.length e (if x18.B.l.length > 65535 then 9 else 0) (x18.B.l.length + 2)) (enc 2 x18.B.l.length ++ x18.B.l)) (addE (max most 0) l.length e (if x18.B.l.length > 65535 then 9 else 0) (x18.B.l.length + 2))).length : Int))))] (by kernel_rfl) ?_
              rcases bsplit (decide ((k : Int) < ((doneL (addL l (addE (max most 0) l.length e (if x18.B.l.length > 65535 then 9 else 0) (x18.B.l.length + 2)) (enc 2 x18.B.l.length ++ x18.B.l)) (addE (max most 0) l.length e (if x18.B.l.length > 65535 then 9 else 0) (x18.B.l.length + 2))).length : Int))) with hb199 | hb199
              · rw [hb199]
                have h199 := of_decide_eq_true hb199
                refine seg 7 [.op [1, 1, 1, 1, 0, 1, 0, 0, 1, 0, 0, 1, 1, 1, 1, 1, 1, 0, 0, 1, 0, 0] 2, .bl 4, .co [1, 1, 1, 1, 0, 1, 0, 0, 1, 0, 0, 1, 1, 1, 1, 1, 1, 0, 0, 1, 1], .le 1, .bl 3, .bl 1, .co [1, 1, 1, 1, 0, 1, 0, 0, 1, 1], .le 0, .bl 0, .co [1, 1, 1, 1, 1]] [(1, .slice s.A s.l.length s.c), (5, .pointer (some (⟨g4, 0, none⟩))), (6, .pointer (some (⟨g5, 0, none⟩))), (7, .int .i64 (i : Int)), (8, .slice A158 ((doneL (addL l (addE (max most 0) l.length e (if x18.B.l.length > 65535 then 9 else 0) (x18.B.l.length + 2)) (enc 2 x18.B.l.length ++ x18.B.l)) (addE (max most 0) l.length e (if x18.B.l.length > 65535 then 9 else 0) (x18.B.l.length + 2))).length) c158), (10, .int .i64 (k : Int)), (121, .slice A158 ((doneL (addL l (addE (max most 0) l.length e (if x18.B.l.length > 65535 then 9 else 0) (x18.B.l.length + 2)) (enc 2 x18.B.l.length ++ x18.B.l)) (addE (max most 0) l.length e (if x18.B.l.length > 65535 then 9 else 0) (x18.B.l.length + 2))).length) c158), (122, .int .i64 (k : Int))] (by kernel_rfl) ?_
                have u201 := UInt8.toNat_lt (m.getD k 0)
                obtain ⟨ad200, ea200, l1200, l2200, ca200⟩ := (Cs.of_own hn193).at2 (bs_get m k (by omega))
                refine st (idxR (some 123) 22 5 1 A158 ad200 ((doneL (addL l (addE (max most 0) l.length e (if x18.B.l.length > 65535 then 9 else 0) (x18.B.l.length + 2)) (enc 2 x18.B.l.length ++ x18.B.l)) (addE (max most 0) l.length e (if x18.B.l.length > 65535 then 9 else 0) (x18.B.l.length + 2))).length) c158 .i64 (k : Int) k ea200 (by kernel_rfl) (by kernel_rfl) (by omega) (by omega) (by omega) ?_)
                refine st (ldR (some 124) 5 (ad200.add k) (.int .u8 ((m.getD k 0).toNat : Int)) (by kernel_rfl) (by kernel_rfl) ca200 ?_)
                refine seg 1 [.op [1, 1, 1, 1, 0, 1, 0, 0, 1, 0, 0, 1, 1, 1, 1, 1, 1, 0, 0, 1, 0, 0] 5, .bl 4, .co [1, 1, 1, 1, 0, 1, 0, 0, 1, 0, 0, 1, 1, 1, 1, 1, 1, 0, 0, 1, 1], .le 1, .bl 3, .bl 1, .co [1, 1, 1, 1, 0, 1, 0, 0, 1, 1], .le 0, .bl 0, .co [1, 1, 1, 1, 1]] [(1, .slice s.A s.l.length s.c), (5, .pointer (some (⟨g4, 0, none⟩))), (6, .pointer (some (⟨g5, 0, none⟩))), (7, .int .i64 (i : Int)), (8, .slice A158 ((doneL (addL l (addE (max most 0) l.length e (if x18.B.l.length > 65535 then 9 else 0) (x18.B.l.length + 2)) (enc 2 x18.B.l.length ++ x18.B.l)) (addE (max most 0) l.length e (if x18.B.l.length > 65535 then 9 else 0) (x18.B.l.length + 2))).length) c158), (10, .int .i64 (k : Int)), (121, .slice A158 ((doneL (addL l (addE (max most 0) l.length e (if x18.B.l.length > 65535 then 9 else 0) (x18.B.l.length + 2)) (enc 2 x18.B.l.length ++ x18.B.l)) (addE (max most 0) l.length e (if x18.B.l.length > 65535 then 9 else 0) (x18.B.l.length + 2))).length) c158), (122, .int .i64 (k : Int)), (125, .int .u8 (IntKind.u8.wrap (((m.getD k 0).toNat : Int) + 1)))] (by kernel_rfl) ?_
                rw [show IntKind.u8.wrap (((m.getD k 0).toNat : Int) + 1) = ((m.getD k 0 + 1).toNat : Int) from wrap_succ _]
                have u203 := UInt8.toNat_lt (m.getD k 0)
                obtain ⟨ad202, ea202, l1202, l2202, ca202⟩ := (Cs.of_own hn193).at2 (bs_get m k (by omega))
                refine st (idxR (some 126) 22 5 1 A158 ad202 ((doneL (addL l (addE (max most 0) l.length e (if x18.B.l.length > 65535 then 9 else 0) (x18.B.l.length + 2)) (enc 2 x18.B.l.length ++ x18.B.l)) (addE (max most 0) l.length e (if x18.B.l.length > 65535 then 9 else 0) (x18.B.l.length + 2))).length) c158 .i64 (k : Int) k ea202 (by kernel_rfl) (by kernel_rfl) (by omega) (by omega) (by omega) ?_)
                have hlt205 := own_lt hn191
                have hlt206 := own_lt hn192
                refine st (stOwnR none 5 w152.heap.size 5 1 A158 ((doneL (addL l (addE (max most 0) l.length e (if x18.B.l.length > 65535 then 9 else 0) (x18.B.l.length + 2)) (enc 2 x18.B.l.length ++ x18.B.l)) (addE (max most 0) l.length e (if x18.B.l.length > 65535 then 9 else 0) (x18.B.l.length + 2))).length) c158 (bs m) ad202 k (.int .u8 ((m.getD k 0 + 1).toNat : Int)) (by kernel_rfl) (by kernel_rfl) rfl hn193 ea202 (by first | (rw [bs_length]; omega) | (simp; omega)) ?_)
                intro w204 hn204 hx204 hz204
                replace hn191 := own_kp hn191 hx204 (fun k hk e => by have h1 := own_ge hn191 hk.symm; first | (have h2 := own_ge hn193 e; omega) | (have h2 := own_ge hn193 e; have h3 := hlt155 k hk.symm; omega) | (have h2 := own_ge hn193 e; have h3 := hlt159 k hk.symm; omega) | (have h2 := own_ge hn193 e; have h3 := hlt162 k hk.symm; omega) | (have h2 := own_ge hn193 e; have h3 := hlt165 k hk.symm; omega) | (have h2 := own_ge hn193 e; have h3 := hlt205 k hk.symm; omega) | (have h2 := hlt164 k e; omega) | (have h2 := hlt167 k e; omega))
                replace hn192 := own_kp hn192 hx204 (fun k hk e => by have h1 := own_ge hn192 hk.symm; first | (have h2 := own_ge hn193 e; omega) | (have h2 := own_ge hn193 e; have h3 := hlt160 k hk.symm; omega) | (have h2 := own_ge hn193 e; have h3 := hlt163 k hk.symm; omega) | (have h2 := own_ge hn193 e; have h3 := hlt166 k hk.symm; omega) | (have h2 := own_ge hn193 e; have h3 := hlt206 k hk.symm; omega) | (have h2 := hlt164 k e; omega) | (have h2 := hlt167 k e; omega))
                replace hd189 : Sls.Ok _ _ _ s := Dat.kp (a := s) hd189 hx204 (fun k hk => by first | exact .inr (by have := own_ge hn193 hk; omega) | exact .inl (by have := hlt164 k hk; omega) | exact .inl (by have := hlt167 k hk; omega))
                replace hd190 : TAct.Ok _ _ _ x18 := Dat.kp (a := x18) hd190 hx204 (fun k hk => by first | exact .inr (by have := own_ge hn193 hk; omega) | exact .inl (by have := hlt164 k hk; omega) | exact .inl (by have := hlt167 k hk; omega))
                replace hg194 := hx204.blk hg194 (fun e => by have := own_ge hn193 e; omega)
                replace hg195 := hx204.blk hg195 (fun e => by have := own_ge hn193 e; omega)
                replace hF := hF.step hx204 (fun k hk hlt => absurd (own_ge hn193 hk) (by omega))
                rw [bs_set] at hn204
                refine seg 7 [.le 1, .bl 3, .bl 1, .co [1, 1, 1, 1, 0, 1, 0, 0, 1, 1], .le 0, .bl 0, .co [1, 1, 1, 1, 1]] [(1, .slice s.A s.l.length s.c), (5, .pointer (some (⟨g4, 0, none⟩))), (6, .pointer (some (⟨g5, 0, none⟩))), (7, .int .i64 (i : Int)), (8, .slice A158 ((doneL (addL l (addE (max most 0) l.length e (if x18.B.l.length > 65535 then 9 else 0) (x18.B.l.length + 2)) (enc 2 x18.B.l.length ++ x18.B.l)) (addE (max most 0) l.length e (if x18.B.l.length > 65535 then 9 else 0) (x18.B.l.length + 2))).length) c158), (10, .int .i64 (IntKind.i64.wrap ((k : Int) + 1)))] (by kernel_rfl) ?_
                rw [show IntKind.i64.wrap ((k : Int) + 1) = ((k : Int) + 1) from w64 (by omega)]
                refine leR (k + 1, (m.set k (m.getD k 0 + 1))) (by dsimp only; omega) ⟨by dsimp only; omega, by dsimp only; rw [List.length_set]; exact hm, hd189, hd190, hn191, hn192, hn204, hg194, hg195, hap196, hF⟩ (by kernel_rfl)
              · rw [hb199]
                have h199 := of_decide_eq_false hb199
                refine seg 8 [.le 0, .bl 0, .co [1, 1, 1, 1, 1]] [(1, .slice s.A s.l.length s.c), (5, .pointer (some (⟨g4, 0, none⟩))), (6, .pointer (some (⟨g5, 0, none⟩))), (7, .int .i64 (IntKind.i64.wrap ((i : Int) + 1)))] (by kernel_rfl) ?_
                rw [show IntKind.i64.wrap ((i : Int) + 1) = ((i : Int) + 1) from w64 (by omega)]
                refine leR_up (k' := []) (by rfl) ?_
                refine leR (i + 1, (addL l (addE (max most 0) l.length e (if x18.B.l.length > 65535 then 9 else 0) (x18.B.l.length + 2)) (enc 2 x18.B.l.length ++ x18.B.l)), (addE (max most 0) l.length e (if x18.B.l.length > 65535 then 9 else 0) (x18.B.l.length + 2)), A152, c152, A30, c30) (by dsimp only; omega) ⟨by dsimp only; omega, by dsimp only; omega, hd189, hn192, hn191, hg194, hg195, hap196, hF⟩ (by kernel_rfl)
    · rw [hb16]
      have h16 := of_decide_eq_false hb16
      refine seg 4 [.op [1, 1, 1, 1, 1, 0] 0, .co [1, 1, 1, 1, 1, 1]] [] (by kernel_rfl) ?_
      have hlt208 := own_lt hn9
      have hlt209 := own_lt hn10
      refine st (callR (some 127) 15 #[] Try.call15 (live_c wl7) (by kernel_rfl) ?_)
      rintro _ w207 ⟨rfl, hx207⟩
      have hz207 := hx207.size
      replace hn9 := own_ex hn9 hx207
      replace hn10 := own_ex hn10 hx207
      replace hd8 : Sls.Ok _ _ _ s := Dat.kp (a := s) hd8 hx207 (fun _ e => e.elim)
      replace hg11 := hx207.blk hg11 (fun e => e)
      replace hg12 := hx207.blk hg12 (fun e => e)
      replace hF := hF.ex hx207
      refine seg 2 [.co [1, 1, 1, 1, 1, 1]] [(4, .bool true)] (by kernel_rfl) ?_
      refine retR [4] [.bool true] (by kernel_rfl) (by kernel_rfl) (by kernel_rfl) ?_
      exact ⟨_, rfl, rfl, hF⟩

end Go.Proofs.Ytgkiegplmohgkaa.F
