/- FieldBack: the walk. -/
import Derived.Test.YtgkiegplmohgkaaF2
import Derived.Test.YtgkiegplmohgkaaF4
import Derived.Test.YtgkiegplmohgkaaF5
import Derived.Test.YtgkiegplmohgkaaBack
import Derived.Test.YtgkiegplmohgkaaT
set_option linter.unusedVariables false
set_option linter.unusedSimpArgs false
namespace Go.Proofs.Ytgkiegplmohgkaa.F
open Go Go.RowKit Go.Proofs.Ytgkiegplmohgkaa.K
theorem fieldBack_c (w : World) (s : Sls TAct) (hs : s.Ok 0 w.heap.size w) :
    Calls Try.prog 10 #[.slice s.A s.l.length s.c] w fun e w' => ∃ v, e = .returned v ∧ (v = .bool true ∧ Ex w w') := by
  refine callsR Try.func10 (by kernel_rfl) (by kernel_rfl) ?_
  have hmx : maxLen = 9223372036854775807 := rfl
  have hF : Ex w w := Kp.refl _ _
  have q1 : s.l.length ≤ s.c := Sls.Ok.le hs
  have q1m : s.c ≤ maxLen := Sls.Ok.max hs
  refine seg 11 [.co [1, 0, 1], .co [1, 1]] [(0, .slice s.A s.l.length s.c), (13, .bool (decide ((s.l.length : Int) > 100)))] (by kernel_rfl) ?_
  rcases bsplit (decide ((s.l.length : Int) > 100)) with hb2 | hb2
  · rw [hb2]
    have h2 := of_decide_eq_true hb2
    refine seg 3 [.op [1, 0, 1, 0, 0] 0, .co [1, 0, 1, 0, 1], .co [1, 1]] [] (by kernel_rfl) ?_
    refine st (callR (some 14) 15 #[] Try.call15 (live_c w) (by kernel_rfl) ?_)
    rintro _ w3 ⟨rfl, hx3⟩
    have hz3 := hx3.size
    replace hF := hF.ex hx3
    refine seg 2 [.co [1, 0, 1, 0, 1], .co [1, 1]] [(2, .bool true)] (by kernel_rfl) ?_
    refine retR [2] [.bool true] (by kernel_rfl) (by kernel_rfl) (by kernel_rfl) ?_
    exact ⟨_, rfl, rfl, hF⟩
  · rw [hb2]
    have h2 := of_decide_eq_false hb2
    refine seg 4 [.op [1, 1, 0] 0, .co [1, 1, 1]] [(0, .slice s.A s.l.length s.c)] (by kernel_rfl) ?_
    refine st (callR (some 15) 30 #[.int .i64 1048576] Try.call30 (wnew_c w 1048576 (by omega)) (by kernel_rfl) ?_)
    rintro _ w4 ⟨g4, rfl, hx4, hgs4, hz4, hg4⟩
    have hlm4 : 0 ≤ max 1048576 0 ∧ max 1048576 0 ≤ 9223372036854775807 := by omega
    replace hs : Sls.Ok _ _ _ s := Dat.kp (a := s) hs hx4 (fun _ e => e.elim)
    replace hF := hF.ex hx4
    refine seg 8 [.co [1, 1, 1, 0, 1, 0], .bl 0, .co [1, 1, 1, 1]] [(0, .slice s.A s.l.length s.c), (3, .pointer (some (⟨g4, 0, none⟩))), (4, .int .i64 0)] (by kernel_rfl) ?_
    have hbz : (g4 + 1) ≤ w4.heap.size := by have := blk_lt hg4; omega
    have hbz0 : w.heap.size ≤ g4 := by omega
    refine loopR 0 (fun (x : Nat × List UInt8 × Int × Option Addr × Nat) => [(0, .slice s.A s.l.length s.c), (3, .pointer (some (⟨g4, 0, none⟩))), (4, .int .i64 (x.1 : Int))]) (fun (x : Nat × List UInt8 × Int × Option Addr × Nat) (wl5 : World) => (x.1 ≤ s.l.length) ∧ (x.2.1.length ≤ x.1 * 1010) ∧ (Took s.l x.1 x.2.1 x.2.2.1) ∧ Sls.Ok 0 w.heap.size wl5 s ∧ wl5.ownsRow (g4 + 1) 5 1 (.slice x.2.2.2.1 x.2.1.length x.2.2.2.2) x.2.1.length (bs x.2.1) ∧ wl5.heap[g4]? = some (.cells #[.slice x.2.2.2.1 x.2.1.length x.2.2.2.2, .int .i64 (max 1048576 0), .int .i64 x.2.2.1] 95 (0, 0)) ∧ Ex w wl5) (fun (x : Nat × List UInt8 × Int × Option Addr × Nat) => s.l.length - x.1) (0, [], 0, none, 0) (by kernel_rfl) (by kernel_rfl) (by kernel_rfl) ?_ ?_
    · exact ⟨Nat.zero_le _, Nat.le_refl _, Took.zero _, hs, (World.ownsRow_nil _ _ _ _), hg4, hF⟩
    rintro ⟨i, L, e, A1, c1⟩ wl5 ⟨hi, hll, hT, hd6, hn7, hg8, hF⟩
    try dsimp only at hi
    try dsimp only at hll
    try dsimp only at hT
    try dsimp only at hd6
    try dsimp only at hn7
    try dsimp only at hg8
    try dsimp only at hF
    have hzwl5 := hF.size
    have hbl9 := blk_lt hg8
    refine seg 8 [.co [1, 1, 1, 0, 1, 0, 0, 0, 1], .co [1, 1, 1, 0, 1, 0, 0, 1], .le 0, .bl 0, .co [1, 1, 1, 1]] [(0, .slice s.A s.l.length s.c), (3, .pointer (some (⟨g4, 0, none⟩))), (4, .int .i64 (i : Int)), (19, .bool (decide ((i : Int) < (s.l.length : Int))))] (by kernel_rfl) ?_
    rcases bsplit (decide ((i : Int) < (s.l.length : Int))) with hb10 | hb10
    · rw [hb10]
      have h10 := of_decide_eq_true hb10
      refine seg 9 [.op [1, 1, 1, 0, 1, 0, 0, 1, 0, 0, 0, 0] 2, .co [1, 1, 1, 0, 1, 0, 0, 1, 0, 0, 0, 1], .co [1, 1, 1, 0, 1, 0, 0, 1, 0, 0, 1], .bl 1, .co [1, 1, 1, 0, 1, 0, 0, 1, 1], .le 0, .bl 0, .co [1, 1, 1, 1]] [(0, .slice s.A s.l.length s.c), (3, .pointer (some (⟨g4, 0, none⟩))), (4, .int .i64 (i : Int)), (22, .slice s.A s.l.length s.c), (23, .int .i64 (i : Int))] (by kernel_rfl) ?_
      obtain ⟨x12, hx12⟩ : ∃ x, s.l[i]? = some x := ⟨_, List.getElem?_eq_getElem (by omega)⟩
      have ox12 : TAct.Ok _ _ _ x12 := Sls.Ok.el hd6 x12 (List.mem_of_getElem? hx12)
      have q14 : -9223372036854775808 ≤ x12.Do ∧ x12.Do ≤ 9223372036854775807 := ox12.Do
      have q15 : -9223372036854775808 ≤ x12.N ∧ x12.N ≤ 9223372036854775807 := ox12.N
      have q16 : x12.V < 18446744073709551616 := ox12.V
      have q17 : x12.B.l.length ≤ x12.B.c := Sls.Ok.le ox12.B
      have q17m : x12.B.c ≤ maxLen := Sls.Ok.max ox12.B
      obtain ⟨ad11, ea11, l111, l211, ca11⟩ := Cs.row (Sls.Ok.cs hd6) (n := 4) rfl (by decide) hx12
      refine st (idxR (some 24) 50 56 4 s.A ad11 s.l.length s.c .i64 (i : Int) (i * 4) ea11 (by kernel_rfl) (by kernel_rfl) (by omega) (by omega) (by omega) ?_)
      refine seg 1 [.op [1, 1, 1, 0, 1, 0, 0, 1, 0, 0, 0, 0] 4, .co [1, 1, 1, 0, 1, 0, 0, 1, 0, 0, 0, 1], .co [1, 1, 1, 0, 1, 0, 0, 1, 0, 0, 1], .bl 1, .co [1, 1, 1, 0, 1, 0, 0, 1, 1], .le 0, .bl 0, .co [1, 1, 1, 1]] [(0, .slice s.A s.l.length s.c), (3, .pointer (some (⟨g4, 0, none⟩))), (4, .int .i64 (i : Int)), (25, .pointer (some ((ad11.add (i * 4)).add 3)))] (by kernel_rfl) ?_
      refine st (ldR (some 26) 22 ((ad11.add (i * 4)).add 3) (.slice x12.B.A x12.B.l.length x12.B.c) (by kernel_rfl) (by kernel_rfl) (ca11 3 _ rfl) ?_)
      refine seg 3 [.co [1, 1, 1, 0, 1, 0, 0, 1, 0, 0, 0, 1], .co [1, 1, 1, 0, 1, 0, 0, 1, 0, 0, 1], .bl 1, .co [1, 1, 1, 0, 1, 0, 0, 1, 1], .le 0, .bl 0, .co [1, 1, 1, 1]] [(0, .slice s.A s.l.length s.c), (3, .pointer (some (⟨g4, 0, none⟩))), (4, .int .i64 (i : Int)), (28, .bool (decide ((x12.B.l.length : Int) > 1000)))] (by kernel_rfl) ?_
      rcases bsplit (decide ((x12.B.l.length : Int) > 1000)) with hb18 | hb18
      · rw [hb18]
        have h18 := of_decide_eq_true hb18
        refine seg 3 [.op [1, 1, 1, 0, 1, 0, 0, 1, 0, 0, 0, 1, 0, 0] 0, .co [1, 1, 1, 0, 1, 0, 0, 1, 0, 0, 0, 1, 0, 1], .co [1, 1, 1, 0, 1, 0, 0, 1, 0, 0, 1], .bl 1, .co [1, 1, 1, 0, 1, 0, 0, 1, 1], .le 0, .bl 0, .co [1, 1, 1, 1]] [] (by kernel_rfl) ?_
        have hlt20 := own_lt hn7
        refine st (callR (some 29) 15 #[] Try.call15 (live_c wl5) (by kernel_rfl) ?_)
        rintro _ w19 ⟨rfl, hx19⟩
        have hz19 := hx19.size
        replace hn7 := own_ex hn7 hx19
        replace hd6 : Sls.Ok _ _ _ s := Dat.kp (a := s) hd6 hx19 (fun _ e => e.elim)
        replace ox12 : TAct.Ok _ _ _ x12 := Dat.kp (a := x12) ox12 hx19 (fun _ e => e.elim)
        replace hg8 := hx19.blk hg8 (fun e => e)
        replace hF := hF.ex hx19
        refine seg 2 [.co [1, 1, 1, 0, 1, 0, 0, 1, 0, 0, 0, 1, 0, 1], .co [1, 1, 1, 0, 1, 0, 0, 1, 0, 0, 1], .bl 1, .co [1, 1, 1, 0, 1, 0, 0, 1, 1], .le 0, .bl 0, .co [1, 1, 1, 1]] [(2, .bool true)] (by kernel_rfl) ?_
        refine retR [2] [.bool true] (by kernel_rfl) (by kernel_rfl) (by kernel_rfl) ?_
        exact ⟨_, rfl, rfl, hF⟩
      · rw [hb18]
        have h18 := of_decide_eq_false hb18
        refine seg 6 [.op [1, 1, 1, 0, 1, 0, 0, 1, 0, 0, 1, 0] 2, .co [1, 1, 1, 0, 1, 0, 0, 1, 0, 0, 1, 1], .bl 1, .co [1, 1, 1, 0, 1, 0, 0, 1, 1], .le 0, .bl 0, .co [1, 1, 1, 1]] [(0, .slice s.A s.l.length s.c), (3, .pointer (some (⟨g4, 0, none⟩))), (4, .int .i64 (i : Int)), (30, .slice s.A s.l.length s.c), (31, .int .i64 (i : Int))] (by kernel_rfl) ?_
        obtain ⟨ad21, ea21, l121, l221, ca21⟩ := Cs.row (Sls.Ok.cs hd6) (n := 4) rfl (by decide) hx12
        refine st (idxR (some 32) 50 56 4 s.A ad21 s.l.length s.c .i64 (i : Int) (i * 4) ea21 (by kernel_rfl) (by kernel_rfl) (by omega) (by omega) (by omega) ?_)
        refine seg 1 [.op [1, 1, 1, 0, 1, 0, 0, 1, 0, 0, 1, 0] 4, .co [1, 1, 1, 0, 1, 0, 0, 1, 0, 0, 1, 1], .bl 1, .co [1, 1, 1, 0, 1, 0, 0, 1, 1], .le 0, .bl 0, .co [1, 1, 1, 1]] [(0, .slice s.A s.l.length s.c), (3, .pointer (some (⟨g4, 0, none⟩))), (4, .int .i64 (i : Int)), (33, .pointer (some (ad21.add (i * 4))))] (by kernel_rfl) ?_
        refine st (ldR (some 34) 3 (ad21.add (i * 4)) (.int .i64 x12.Do) (by kernel_rfl) (by kernel_rfl) (add0 (ca21 0 _ rfl)) ?_)
        refine seg 7 [.co [1, 1, 1, 0, 1, 0, 0, 1, 0, 0, 1, 1, 0, 1], .bl 2, .bl 1, .co [1, 1, 1, 0, 1, 0, 0, 1, 1], .le 0, .bl 0, .co [1, 1, 1, 1]] [(0, .slice s.A s.l.length s.c), (3, .pointer (some (⟨g4, 0, none⟩))), (4, .int .i64 (i : Int)), (34, .int .i64 x12.Do), (42, .bool (x12.Do == 0))] (by kernel_rfl) ?_
        rcases bsplit (x12.Do == 0) with hb22 | hb22
        · rw [hb22]
          have h22 : x12.Do = 0 := by simpa using hb22
          refine seg 1 [.co [1, 1, 1, 0, 1, 0, 0, 1, 0, 0, 1, 1, 0, 1, 0], .bl 2, .bl 1, .co [1, 1, 1, 0, 1, 0, 0, 1, 1], .le 0, .bl 0, .co [1, 1, 1, 1]] [(0, .slice s.A s.l.length s.c), (3, .pointer (some (⟨g4, 0, none⟩))), (4, .int .i64 (i : Int))] (by kernel_rfl) ?_
          refine drawT (fun k => w.heap.size ≤ k) (by kernel_rfl) (by kernel_rfl) ?_
          intro w23 hx23 hz23
          have hn7_23 := hn7
          have hg8_23 := hg8
          have hd6_23 := hd6
          have ox12_23 := ox12
          replace hn7_23 := own_ex hn7_23 hx23
          replace hd6_23 : Sls.Ok _ _ _ s := Dat.kp (a := s) hd6_23 hx23 (fun _ e => e.elim)
          replace ox12_23 : TAct.Ok _ _ _ x12 := Dat.kp (a := x12) ox12_23 hx23 (fun _ e => e.elim)
          replace hg8_23 := hx23.blk hg8_23 (fun e => e)
          replace hF := hF.ex hx23
          have hS23 := Kp.refl (fun k => w.heap.size ≤ k) w23
          refine segD [0, 1, 2, 6, 7] [0, 1, 2, 6, 7] [(0, .slice s.A s.l.length s.c), (3, .pointer (some (⟨g4, 0, none⟩))), (4, .int .i64 (i : Int)), (44, .pointer (some (⟨g4, 0, none⟩))), (45, .slice s.A s.l.length s.c), (46, .int .i64 (i : Int)), (50, .slice s.A s.l.length s.c), (51, .int .i64 (i : Int))] (by kernel_rfl) ?_
          obtain ⟨ad24, ea24, l124, l224, ca24⟩ := Cs.row (Sls.Ok.cs hd6_23) (n := 4) rfl (by decide) hx12
          refine takeD (i := 3) (d := (some 47)) (s := vS (Instr.indexAt 50 (.slice s.A s.l.length s.c) (.int .i64 (i : Int)))) (v := .pointer (some (ad24.add (i * 4)))) (by kernel_rfl) (by kernel_rfl) (fun w' hw' => idx_run 50 56 4 _ ad24 _ _ _ _ (i * 4) ea24 (by kernel_rfl) (by omega) (by omega) (by omega)) ?_
          refine segD [4] [0, 1, 2, 6, 7, 3, 4] [(0, .slice s.A s.l.length s.c), (3, .pointer (some (⟨g4, 0, none⟩))), (4, .int .i64 (i : Int)), (44, .pointer (some (⟨g4, 0, none⟩))), (48, .pointer (some ((ad24.add (i * 4)).add 2))), (50, .slice s.A s.l.length s.c), (51, .int .i64 (i : Int))] (by kernel_rfl) ?_
          refine takeD (i := 5) (d := (some 49)) (s := vS (Instr.loadAt 24 (.pointer (some ((ad24.add (i * 4)).add 2))))) (v := .int .u64 (x12.V : Int)) (by kernel_rfl) (by kernel_rfl) (fun w' hw' => ld_run _ _ _ (by kernel_rfl) (hw'.cell (ca24 2 _ rfl) (by (try simp only [add_block]); exact (fun e => by have e : w.heap.size ≤ _ := e; omega)))) ?_
          obtain ⟨ad25, ea25, l125, l225, ca25⟩ := Cs.row (Sls.Ok.cs hd6_23) (n := 4) rfl (by decide) hx12
          refine stD (i := 8) (by kernel_rfl) hS23 (idxR (some 52) 50 56 4 s.A ad25 s.l.length s.c .i64 (i : Int) (i * 4) ea25 (by kernel_rfl) (by kernel_rfl) (by omega) (by omega) (by omega) ?_)
          refine segD [9] [0, 1, 2, 6, 7, 3, 4, 5, 8, 9] [(0, .slice s.A s.l.length s.c), (3, .pointer (some (⟨g4, 0, none⟩))), (4, .int .i64 (i : Int)), (44, .pointer (some (⟨g4, 0, none⟩))), (49, .int .u64 (x12.V : Int)), (53, .pointer (some ((ad25.add (i * 4)).add 1)))] (by kernel_rfl) ?_
          refine stD (i := 10) (by kernel_rfl) hS23 (ldR (some 54) 3 ((ad25.add (i * 4)).add 1) (.int .i64 x12.N) (by kernel_rfl) (by kernel_rfl) (ca25 1 _ rfl) ?_)
          have hb9 : x12.B.l.length ≤ 1000 := by omega
          have hT2 := hT.step hx12 hb9 (m := (max 1048576 0)) (len := L.length) (more := x12.N) (E1 := putE x12.V x12.N) (X := enc ((x12.N).toNat) x12.V) (by simp [errA, actE1, h22]) (by simp [encA, actX, h22])
          have hll26 : (L).length = L.length := (by first | rfl | omega | (simp; omega))
          have hlt27 := own_lt hn7_23
          refine stD (i := 11) (by kernel_rfl) hS23 (callR (some 55) 32 #[.pointer (some (⟨g4, 0, none⟩)), .int .u64 (x12.V : Int), .int .i64 x12.N] Try.call32 (wnum_c w23 g4 (g4 + 1) L.length c1 A1 (max 1048576 0) e hg8_23 hn7_23 (by omega) (by omega) (by omega) x12.V (by omega) x12.N (by omega)) (by kernel_rfl) ?_)
          rintro _ w26 ⟨A26, c26, rfl, hg26, hn26, hW26⟩
          have hz26 := hW26.kp.size
          have hc26 := own_cap hn26
          have hn7_26kp := hn7_23
          have hg8_26kp := hg8_23
          have hd6_26kp := hd6_23
          have ox12_26kp := ox12_23
          have hS23_26kp := hS23
          replace hd6_26kp : Sls.Ok _ _ _ s := Dat.kp (a := s) hd6_26kp hW26.kp (fun k hk => by rcases hk with hk | hk <;> first | omega | exact .inr (by have := own_ge hn7_23 hk; omega) | cases hk | exact .inl (by have := hlt27 k hk; omega))
          replace ox12_26kp : TAct.Ok _ _ _ x12 := Dat.kp (a := x12) ox12_26kp hW26.kp (fun k hk => by rcases hk with hk | hk <;> first | omega | exact .inr (by have := own_ge hn7_23 hk; omega) | cases hk | exact .inl (by have := hlt27 k hk; omega))
          replace hS23_26kp := hS23_26kp.step hW26.kp (fun k hk hlt => by rcases hk with hk | hk <;> first | omega | cases hk | (have := own_ge hn7_23 hk; omega))
          replace hF := hF.step hW26.kp (fun k hk hlt => (by rcases hk with hk | hk <;> first | omega | cases hk | (have := own_ge hn7_23 hk; omega)))
          have hlen := addL_num L (max 1048576 0) L.length e x12.V x12.N
          refine endD (by kernel_rfl) hS23_26kp ?_
          refine seg 7 [.le 0, .bl 0, .co [1, 1, 1, 1]] [(0, .slice s.A s.l.length s.c), (3, .pointer (some (⟨g4, 0, none⟩))), (4, .int .i64 (IntKind.i64.wrap ((i : Int) + 1)))] (by kernel_rfl) ?_
          rw [show IntKind.i64.wrap ((i : Int) + 1) = ((i : Int) + 1) from w64 (by omega)]
          refine leR (i + 1, (addL L (addE (max 1048576 0) L.length e (putE x12.V x12.N) x12.N) (enc ((x12.N).toNat) x12.V)), (addE (max 1048576 0) L.length e (putE x12.V x12.N) x12.N), A26, c26) (by dsimp only; omega) ⟨by dsimp only; omega, by dsimp only; omega, hT2, hd6_26kp, hn26, hg26, hF⟩ (by kernel_rfl)
        · rw [hb22]
          have h22 : x12.Do ≠ 0 := by simpa using hb22
          refine seg 6 [.co [1, 1, 1, 0, 1, 0, 0, 1, 0, 0, 1, 1, 0, 1, 1, 1], .bl 2, .bl 1, .co [1, 1, 1, 0, 1, 0, 0, 1, 1], .le 0, .bl 0, .co [1, 1, 1, 1]] [(0, .slice s.A s.l.length s.c), (3, .pointer (some (⟨g4, 0, none⟩))), (4, .int .i64 (i : Int)), (56, .bool (x12.Do == 1))] (by kernel_rfl) ?_
          rcases bsplit (x12.Do == 1) with hb28 | hb28
          · rw [hb28]
            have h28 : x12.Do = 1 := by simpa using hb28
            refine seg 5 [.op [1, 1, 1, 0, 1, 0, 0, 1, 0, 0, 1, 1, 0, 1, 1, 1, 0] 3, .bl 2, .bl 1, .co [1, 1, 1, 0, 1, 0, 0, 1, 1], .le 0, .bl 0, .co [1, 1, 1, 1]] [(0, .slice s.A s.l.length s.c), (3, .pointer (some (⟨g4, 0, none⟩))), (4, .int .i64 (i : Int)), (58, .pointer (some (⟨g4, 0, none⟩))), (59, .slice s.A s.l.length s.c), (60, .int .i64 (i : Int))] (by kernel_rfl) ?_
            obtain ⟨ad29, ea29, l129, l229, ca29⟩ := Cs.row (Sls.Ok.cs hd6) (n := 4) rfl (by decide) hx12
            refine st (idxR (some 61) 50 56 4 s.A ad29 s.l.length s.c .i64 (i : Int) (i * 4) ea29 (by kernel_rfl) (by kernel_rfl) (by omega) (by omega) (by omega) ?_)
            refine seg 1 [.op [1, 1, 1, 0, 1, 0, 0, 1, 0, 0, 1, 1, 0, 1, 1, 1, 0] 5, .bl 2, .bl 1, .co [1, 1, 1, 0, 1, 0, 0, 1, 1], .le 0, .bl 0, .co [1, 1, 1, 1]] [(0, .slice s.A s.l.length s.c), (3, .pointer (some (⟨g4, 0, none⟩))), (4, .int .i64 (i : Int)), (58, .pointer (some (⟨g4, 0, none⟩))), (62, .pointer (some ((ad29.add (i * 4)).add 3)))] (by kernel_rfl) ?_
            refine st (ldR (some 63) 22 ((ad29.add (i * 4)).add 3) (.slice x12.B.A x12.B.l.length x12.B.c) (by kernel_rfl) (by kernel_rfl) (ca29 3 _ rfl) ?_)
            have hb9 : x12.B.l.length ≤ 1000 := by omega
            have hT2 := hT.step hx12 hb9 (m := (max 1048576 0)) (len := L.length) (more := x12.B.l.length) (E1 := 0) (X := x12.B.l) (by simp [errA, actE1, h22, h28]) (by simp [encA, actX, h22, h28])
            have hlx31 : (x12.B.l).length = x12.B.l.length := (by first | rfl | omega | (simp; omega))
            have hll30 : (L).length = L.length := (by first | rfl | omega | (simp; omega))
            have hlt32 := own_lt hn7
            refine st (callR (some 64) 33 #[.pointer (some (⟨g4, 0, none⟩)), .slice x12.B.A x12.B.l.length x12.B.c] Try.call33 (wbytes_c wl5 g4 (g4 + 1) L.length c1 A1 (max 1048576 0) e hg8 hn7 (by omega) (by omega) (by omega) x12.B.A x12.B.l.length x12.B.c (Sls.Ok.bcs ox12.B) hlx31 (by omega) (by omega)) (by kernel_rfl) ?_)
            rintro _ w30 ⟨A30, c30, rfl, hg30, hn30, hW30⟩
            have hz30 := hW30.kp.size
            have hc30 := own_cap hn30
            replace hd6 : Sls.Ok _ _ _ s := Dat.kp (a := s) hd6 hW30.kp (fun k hk => by rcases hk with hk | hk <;> first | omega | exact .inr (by have := own_ge hn7 hk; omega) | cases hk | exact .inl (by have := hlt32 k hk; omega))
            replace ox12 : TAct.Ok _ _ _ x12 := Dat.kp (a := x12) ox12 hW30.kp (fun k hk => by rcases hk with hk | hk <;> first | omega | exact .inr (by have := own_ge hn7 hk; omega) | cases hk | exact .inl (by have := hlt32 k hk; omega))
            replace hF := hF.step hW30.kp (fun k hk hlt => (by rcases hk with hk | hk <;> first | omega | cases hk | (have := own_ge hn7 hk; omega)))
            have hlen := addL_len L (addE (max 1048576 0) L.length e 0 x12.B.l.length) x12.B.l
            refine seg 8 [.le 0, .bl 0, .co [1, 1, 1, 1]] [(0, .slice s.A s.l.length s.c), (3, .pointer (some (⟨g4, 0, none⟩))), (4, .int .i64 (IntKind.i64.wrap ((i : Int) + 1)))] (by kernel_rfl) ?_
            rw [show IntKind.i64.wrap ((i : Int) + 1) = ((i : Int) + 1) from w64 (by omega)]
            refine leR (i + 1, (addL L (addE (max 1048576 0) L.length e 0 x12.B.l.length) x12.B.l), (addE (max 1048576 0) L.length e 0 x12.B.l.length), A30, c30) (by dsimp only; omega) ⟨by dsimp only; omega, by dsimp only; omega, hT2, hd6, hn30, hg30, hF⟩ (by kernel_rfl)
          · rw [hb28]
            have h28 : x12.Do ≠ 1 := by simpa using hb28
            refine seg 5 [.op [1, 1, 1, 0, 1, 0, 0, 1, 0, 0, 1, 1, 0, 1, 1, 1, 1] 3, .bl 2, .bl 1, .co [1, 1, 1, 0, 1, 0, 0, 1, 1], .le 0, .bl 0, .co [1, 1, 1, 1]] [(0, .slice s.A s.l.length s.c), (3, .pointer (some (⟨g4, 0, none⟩))), (4, .int .i64 (i : Int)), (35, .pointer (some (⟨g4, 0, none⟩))), (36, .slice s.A s.l.length s.c), (37, .int .i64 (i : Int))] (by kernel_rfl) ?_
            obtain ⟨ad33, ea33, l133, l233, ca33⟩ := Cs.row (Sls.Ok.cs hd6) (n := 4) rfl (by decide) hx12
            refine st (idxR (some 38) 50 56 4 s.A ad33 s.l.length s.c .i64 (i : Int) (i * 4) ea33 (by kernel_rfl) (by kernel_rfl) (by omega) (by omega) (by omega) ?_)
            refine seg 1 [.op [1, 1, 1, 0, 1, 0, 0, 1, 0, 0, 1, 1, 0, 1, 1, 1, 1] 5, .bl 2, .bl 1, .co [1, 1, 1, 0, 1, 0, 0, 1, 1], .le 0, .bl 0, .co [1, 1, 1, 1]] [(0, .slice s.A s.l.length s.c), (3, .pointer (some (⟨g4, 0, none⟩))), (4, .int .i64 (i : Int)), (35, .pointer (some (⟨g4, 0, none⟩))), (39, .pointer (some ((ad33.add (i * 4)).add 3)))] (by kernel_rfl) ?_
            refine st (ldR (some 40) 22 ((ad33.add (i * 4)).add 3) (.slice x12.B.A x12.B.l.length x12.B.c) (by kernel_rfl) (by kernel_rfl) (ca33 3 _ rfl) ?_)
            have hb9 : x12.B.l.length ≤ 1000 := by omega
            have hT2 := hT.step hx12 hb9 (m := (max 1048576 0)) (len := L.length) (more := (x12.B.l.length + 2)) (E1 := (if x12.B.l.length > 65535 then 9 else 0)) (X := enc 2 x12.B.l.length ++ x12.B.l) (by simp [errA, actE1, h22, h28]) (by simp [encA, actX, h22, h28])
            have hlx35 : (x12.B.l).length = x12.B.l.length := (by first | rfl | omega | (simp; omega))
            have hll34 : (L).length = L.length := (by first | rfl | omega | (simp; omega))
            have hlt36 := own_lt hn7
            refine st (callR (some 41) 34 #[.pointer (some (⟨g4, 0, none⟩)), .slice x12.B.A x12.B.l.length x12.B.c] Try.call34 (wtext_c wl5 g4 (g4 + 1) L.length c1 A1 (max 1048576 0) e hg8 hn7 (by omega) (by omega) (by omega) x12.B.A x12.B.l.length x12.B.c (Sls.Ok.bcs ox12.B) hlx35 (by omega) (by omega) (fun k hk => .inr (by have := own_ge (by assumption) hk; omega))) (by kernel_rfl) ?_)
            rintro _ w34 ⟨A34, c34, rfl, hg34, hn34, hW34⟩
            have hz34 := hW34.kp.size
            have hc34 := own_cap hn34
            replace hd6 : Sls.Ok _ _ _ s := Dat.kp (a := s) hd6 hW34.kp (fun k hk => by rcases hk with hk | hk <;> first | omega | exact .inr (by have := own_ge hn7 hk; omega) | cases hk | exact .inl (by have := hlt36 k hk; omega))
            replace ox12 : TAct.Ok _ _ _ x12 := Dat.kp (a := x12) ox12 hW34.kp (fun k hk => by rcases hk with hk | hk <;> first | omega | exact .inr (by have := own_ge hn7 hk; omega) | cases hk | exact .inl (by have := hlt36 k hk; omega))
            replace hF := hF.step hW34.kp (fun k hk hlt => (by rcases hk with hk | hk <;> first | omega | cases hk | (have := own_ge hn7 hk; omega)))
            have hlen := addL_len L (addE (max 1048576 0) L.length e (if x12.B.l.length > 65535 then 9 else 0) (x12.B.l.length + 2)) (enc 2 x12.B.l.length ++ x12.B.l)
            rw [List.length_append, enc_length] at hlen
            refine seg 8 [.le 0, .bl 0, .co [1, 1, 1, 1]] [(0, .slice s.A s.l.length s.c), (3, .pointer (some (⟨g4, 0, none⟩))), (4, .int .i64 (IntKind.i64.wrap ((i : Int) + 1)))] (by kernel_rfl) ?_
            rw [show IntKind.i64.wrap ((i : Int) + 1) = ((i : Int) + 1) from w64 (by omega)]
            refine leR (i + 1, (addL L (addE (max 1048576 0) L.length e (if x12.B.l.length > 65535 then 9 else 0) (x12.B.l.length + 2)) (enc 2 x12.B.l.length ++ x12.B.l)), (addE (max 1048576 0) L.length e (if x12.B.l.length > 65535 then 9 else 0) (x12.B.l.length + 2)), A34, c34) (by dsimp only; omega) ⟨by dsimp only; omega, by dsimp only; omega, hT2, hd6, hn34, hg34, hF⟩ (by kernel_rfl)
    · rw [hb10]
      have h10 := of_decide_eq_false hb10
      refine seg 5 [.op [1, 1, 1, 1, 0] 1, .co [1, 1, 1, 1, 1]] [(0, .slice s.A s.l.length s.c), (66, .pointer (some (⟨g4, 0, none⟩)))] (by kernel_rfl) ?_
      have hll37 : (L).length = L.length := (by first | rfl | omega | (simp; omega))
      have hlt39 := own_lt hn7
      refine st (callR (some 67) 35 #[.pointer (some (⟨g4, 0, none⟩))] Try.call35 (wdone_c wl5 g4 A1 L.length c1 (max 1048576 0) e hg8 (Cs.of_own hn7) hll37 (by omega)) (by kernel_rfl) ?_)
      rintro _ w38 ⟨A38, c38, rfl, hx38, hn38⟩
      have hz38 := hx38.size
      have hc38 := own_cap hn38
      replace hn7 := own_ex hn7 hx38
      replace hd6 : Sls.Ok _ _ _ s := Dat.kp (a := s) hd6 hx38 (fun _ e => e.elim)
      replace hg8 := hx38.blk hg8 (fun e => e)
      replace hF := hF.ex hx38
      refine seg 10 [.op [1, 1, 1, 1, 1, 0, 0] 1, .co [1, 1, 1, 1, 1, 0, 1], .co [1, 1, 1, 1, 1, 1]] [(0, .slice s.A s.l.length s.c), (5, .slice A38 ((doneL L e).length) c38), (70, .int .i64 e)] (by kernel_rfl) ?_
      have hlt40 := own_lt hn7
      have hlt41 := own_lt hn38
      refine st (callR (some 71) 18 #[.int .i64 e] Try.call18 (num_c w38 e) (by kernel_rfl) ?_)
      rintro _ _ ⟨rfl, rfl⟩
      refine seg 2 [.co [1, 1, 1, 1, 1, 0, 1], .co [1, 1, 1, 1, 1, 1]] [(0, .slice s.A s.l.length s.c), (5, .slice A38 ((doneL L e).length) c38), (72, .bool (e != 0))] (by kernel_rfl) ?_
      rcases bsplit (e != 0) with hb42 | hb42
      · rw [hb42]
        have h42 : e ≠ 0 := by simpa using hb42
        refine seg 7 [.op [1, 1, 1, 1, 1, 0, 1, 0, 0] 4, .co [1, 1, 1, 1, 1, 0, 1, 0, 1], .co [1, 1, 1, 1, 1, 1]] [(76, .bool (((doneL L e).length : Int) == 0))] (by kernel_rfl) ?_
        rw [show (((doneL L e).length : Int) == 0) = true from by rw [doneL, if_neg (by assumption)]; rfl]
        have hlt44 := own_lt hn7
        have hlt45 := own_lt hn38
        refine st (callR (some 77) 15 #[] Try.call15 (live_c w38) (by kernel_rfl) ?_)
        rintro _ w43 ⟨rfl, hx43⟩
        have hz43 := hx43.size
        replace hn7 := own_ex hn7 hx43
        replace hd6 : Sls.Ok _ _ _ s := Dat.kp (a := s) hd6 hx43 (fun _ e => e.elim)
        replace hg8 := hx43.blk hg8 (fun e => e)
        replace hF := hF.ex hx43
        refine seg 3 [.co [1, 1, 1, 1, 1, 0, 1, 0, 1], .co [1, 1, 1, 1, 1, 1]] [(2, .bool true)] (by kernel_rfl) ?_
        refine retR [2] [.bool true] (by kernel_rfl) (by kernel_rfl) (by kernel_rfl) ?_
        exact ⟨_, rfl, rfl, hF⟩
      · rw [hb42]
        have h42 : e = 0 := by simpa using hb42
        refine seg 5 [.op [1, 1, 1, 1, 1, 1, 0] 1, .co [1, 1, 1, 1, 1, 1, 1]] [(0, .slice s.A s.l.length s.c), (5, .slice A38 ((doneL L e).length) c38), (79, .slice A38 ((doneL L e).length) c38)] (by kernel_rfl) ?_
        have hdl : (doneL L e).length ≤ L.length := by unfold doneL; split <;> simp
        have hll46 : ((doneL L e)).length = (doneL L e).length := (by first | rfl | omega | (simp; omega))
        have hlt47 := own_lt hn7
        have hlt48 := own_lt hn38
        refine st (callR (some 80) 37 #[.slice A38 ((doneL L e).length) c38] Try.call37 (rnew_c w38 A38 ((doneL L e).length) c38 (Cs.of_own hn38) hll46 (by omega)) (by kernel_rfl) ?_)
        rintro _ w46 ⟨g46, A46, c46, rfl, hx46, hg46, hs46, hgl46, hnc46, hgh46⟩
        have hz46 := hx46.size
        replace hn7 := own_ex hn7 hx46
        replace hn38 := own_ex hn38 hx46
        replace hd6 : Sls.Ok _ _ _ s := Dat.kp (a := s) hd6 hx46 (fun _ e => e.elim)
        replace hg8 := hx46.blk hg8 (fun e => e)
        replace hF := hF.ex hx46
        refine seg 8 [.co [1, 1, 1, 1, 1, 1, 1, 0, 1, 0], .bl 3, .co [1, 1, 1, 1, 1, 1, 1, 1]] [(0, .slice s.A s.l.length s.c), (5, .slice A38 ((doneL L e).length) c38), (7, .pointer (some (⟨g46, 0, none⟩))), (8, .int .i64 0)] (by kernel_rfl) ?_
        have hall := hT.all (by omega) h42
        have hlen0 : (doneL L e).length ≤ 1000000 := by rw [doneL, if_pos h42]; omega
        rw [hall] at hg46 hs46 hlen0 hnc46
        have herr := (hT.2 h42).2
        rw [hall]
        refine loopR 0 (fun (x : Nat) => [(0, .slice s.A s.l.length s.c), (5, .slice A38 ((encs s.l).length) c38), (7, .pointer (some (⟨g46, 0, none⟩))), (8, .int .i64 (x : Int))]) (fun (x : Nat) (wl49 : World) => (x ≤ s.l.length) ∧ ((encs (s.l.take x)).length ≤ (encs s.l).length) ∧ Cs w38.heap.size g46 wl49 A46 (bs (encs s.l)) ∧ Sls.Ok 0 w.heap.size wl49 s ∧ wl49.heap[g4]? = some (.cells #[.slice A1 L.length c1, .int .i64 (max 1048576 0), .int .i64 e] 95 (0, 0)) ∧ wl49.heap[g46]? = some (.cells #[.slice A46 ((encs s.l).length) c46, .int .i64 ((encs (s.l.take x)).length : Int), .int .i64 0] 98 (0, 0)) ∧ Ex w wl49) (fun (x : Nat) => s.l.length - x) (0) (by kernel_rfl) (by kernel_rfl) (by kernel_rfl) ?_ ?_
        · exact ⟨Nat.zero_le _, Nat.zero_le _, hs46, hd6, hg8, hg46, hF⟩
        rintro i wl49 ⟨hi, hpa, hc50, hd51, hg52, hg53, hF⟩
        have hzwl49 := hF.size
        have hbl54 := blk_lt hg52
        have hbl55 := blk_lt hg53
        refine seg 8 [.co [1, 1, 1, 1, 1, 1, 1, 0, 1, 0, 0, 0, 1], .co [1, 1, 1, 1, 1, 1, 1, 0, 1, 0, 0, 1], .le 0, .bl 3, .co [1, 1, 1, 1, 1, 1, 1, 1]] [(0, .slice s.A s.l.length s.c), (5, .slice A38 ((encs s.l).length) c38), (7, .pointer (some (⟨g46, 0, none⟩))), (8, .int .i64 (i : Int)), (84, .bool (decide ((i : Int) < (s.l.length : Int))))] (by kernel_rfl) ?_
        rcases bsplit (decide ((i : Int) < (s.l.length : Int))) with hb56 | hb56
        · rw [hb56]
          have h56 := of_decide_eq_true hb56
          refine seg 8 [.op [1, 1, 1, 1, 1, 1, 1, 0, 1, 0, 0, 1, 0, 0, 0] 2, .co [1, 1, 1, 1, 1, 1, 1, 0, 1, 0, 0, 1, 0, 0, 1], .bl 4, .co [1, 1, 1, 1, 1, 1, 1, 0, 1, 0, 0, 1, 1], .le 0, .bl 3, .co [1, 1, 1, 1, 1, 1, 1, 1]] [(0, .slice s.A s.l.length s.c), (5, .slice A38 ((encs s.l).length) c38), (7, .pointer (some (⟨g46, 0, none⟩))), (8, .int .i64 (i : Int)), (87, .slice s.A s.l.length s.c), (88, .int .i64 (i : Int))] (by kernel_rfl) ?_
          obtain ⟨x58, hx58⟩ : ∃ x, s.l[i]? = some x := ⟨_, List.getElem?_eq_getElem (by omega)⟩
          have ox58 : TAct.Ok _ _ _ x58 := Sls.Ok.el hd51 x58 (List.mem_of_getElem? hx58)
          have q60 : -9223372036854775808 ≤ x58.Do ∧ x58.Do ≤ 9223372036854775807 := ox58.Do
          have q61 : -9223372036854775808 ≤ x58.N ∧ x58.N ≤ 9223372036854775807 := ox58.N
          have q62 : x58.V < 18446744073709551616 := ox58.V
          have q63 : x58.B.l.length ≤ x58.B.c := Sls.Ok.le ox58.B
          have q63m : x58.B.c ≤ maxLen := Sls.Ok.max ox58.B
          obtain ⟨ad57, ea57, l157, l257, ca57⟩ := Cs.row (Sls.Ok.cs hd51) (n := 4) rfl (by decide) hx58
          refine st (idxR (some 89) 50 56 4 s.A ad57 s.l.length s.c .i64 (i : Int) (i * 4) ea57 (by kernel_rfl) (by kernel_rfl) (by omega) (by omega) (by omega) ?_)
          refine seg 1 [.op [1, 1, 1, 1, 1, 1, 1, 0, 1, 0, 0, 1, 0, 0, 0] 4, .co [1, 1, 1, 1, 1, 1, 1, 0, 1, 0, 0, 1, 0, 0, 1], .bl 4, .co [1, 1, 1, 1, 1, 1, 1, 0, 1, 0, 0, 1, 1], .le 0, .bl 3, .co [1, 1, 1, 1, 1, 1, 1, 1]] [(0, .slice s.A s.l.length s.c), (5, .slice A38 ((encs s.l).length) c38), (7, .pointer (some (⟨g46, 0, none⟩))), (8, .int .i64 (i : Int)), (90, .pointer (some (ad57.add (i * 4))))] (by kernel_rfl) ?_
          refine st (ldR (some 91) 3 (ad57.add (i * 4)) (.int .i64 x58.Do) (by kernel_rfl) (by kernel_rfl) (add0 (ca57 0 _ rfl)) ?_)
          refine seg 7 [.co [1, 1, 1, 1, 1, 1, 1, 0, 1, 0, 0, 1, 0, 0, 1, 0, 1], .bl 5, .bl 4, .co [1, 1, 1, 1, 1, 1, 1, 0, 1, 0, 0, 1, 1], .le 0, .bl 3, .co [1, 1, 1, 1, 1, 1, 1, 1]] [(0, .slice s.A s.l.length s.c), (5, .slice A38 ((encs s.l).length) c38), (7, .pointer (some (⟨g46, 0, none⟩))), (8, .int .i64 (i : Int)), (91, .int .i64 x58.Do), (102, .bool (x58.Do == 0))] (by kernel_rfl) ?_
          rcases bsplit (x58.Do == 0) with hb64 | hb64
          · rw [hb64]
            have h64 : x58.Do = 0 := by simpa using hb64
            refine seg 2 [.co [1, 1, 1, 1, 1, 1, 1, 0, 1, 0, 0, 1, 0, 0, 1, 0, 1, 0, 0], .co [1, 1, 1, 1, 1, 1, 1, 0, 1, 0, 0, 1, 0, 0, 1, 0, 1, 0, 1], .bl 5, .bl 4, .co [1, 1, 1, 1, 1, 1, 1, 0, 1, 0, 0, 1, 1], .le 0, .bl 3, .co [1, 1, 1, 1, 1, 1, 1, 1]] [(0, .slice s.A s.l.length s.c), (5, .slice A38 ((encs s.l).length) c38), (7, .pointer (some (⟨g46, 0, none⟩))), (8, .int .i64 (i : Int))] (by kernel_rfl) ?_
            refine drawT (fun k => w.heap.size ≤ k) (by kernel_rfl) (by kernel_rfl) ?_
            intro w65 hx65 hz65
            have hc50_65 := hc50
            have hg52_65 := hg52
            have hg53_65 := hg53
            have hd51_65 := hd51
            have ox58_65 := ox58
            replace hc50_65 := hc50_65.ex hx65
            replace hd51_65 : Sls.Ok _ _ _ s := Dat.kp (a := s) hd51_65 hx65 (fun _ e => e.elim)
            replace ox58_65 : TAct.Ok _ _ _ x58 := Dat.kp (a := x58) ox58_65 hx65 (fun _ e => e.elim)
            replace hg52_65 := hx65.blk hg52_65 (fun e => e)
            replace hg53_65 := hx65.blk hg53_65 (fun e => e)
            replace hF := hF.ex hx65
            have hS65 := Kp.refl (fun k => w.heap.size ≤ k) w65
            refine segD [0, 1, 2, 7, 8] [0, 1, 2, 7, 8] [(0, .slice s.A s.l.length s.c), (5, .slice A38 ((encs s.l).length) c38), (7, .pointer (some (⟨g46, 0, none⟩))), (8, .int .i64 (i : Int)), (104, .pointer (some (⟨g46, 0, none⟩))), (105, .slice s.A s.l.length s.c), (106, .int .i64 (i : Int)), (111, .slice s.A s.l.length s.c), (112, .int .i64 (i : Int))] (by kernel_rfl) ?_
            obtain ⟨ad66, ea66, l166, l266, ca66⟩ := Cs.row (Sls.Ok.cs hd51_65) (n := 4) rfl (by decide) hx58
            refine takeD (i := 3) (d := (some 107)) (s := vS (Instr.indexAt 50 (.slice s.A s.l.length s.c) (.int .i64 (i : Int)))) (v := .pointer (some (ad66.add (i * 4)))) (by kernel_rfl) (by kernel_rfl) (fun w' hw' => idx_run 50 56 4 _ ad66 _ _ _ _ (i * 4) ea66 (by kernel_rfl) (by omega) (by omega) (by omega)) ?_
            refine segD [4] [0, 1, 2, 7, 8, 3, 4] [(0, .slice s.A s.l.length s.c), (5, .slice A38 ((encs s.l).length) c38), (7, .pointer (some (⟨g46, 0, none⟩))), (8, .int .i64 (i : Int)), (104, .pointer (some (⟨g46, 0, none⟩))), (108, .pointer (some ((ad66.add (i * 4)).add 1))), (111, .slice s.A s.l.length s.c), (112, .int .i64 (i : Int))] (by kernel_rfl) ?_
            refine takeD (i := 5) (d := (some 109)) (s := vS (Instr.loadAt 3 (.pointer (some ((ad66.add (i * 4)).add 1))))) (v := .int .i64 x58.N) (by kernel_rfl) (by kernel_rfl) (fun w' hw' => ld_run _ _ _ (by kernel_rfl) (hw'.cell (ca66 1 _ rfl) (by (try simp only [add_block]); exact (fun e => by have e : w.heap.size ≤ _ := e; omega)))) ?_
            obtain ⟨ad67, ea67, l167, l267, ca67⟩ := Cs.row (Sls.Ok.cs hd51_65) (n := 4) rfl (by decide) hx58
            refine takeD (i := 9) (d := (some 113)) (s := vS (Instr.indexAt 50 (.slice s.A s.l.length s.c) (.int .i64 (i : Int)))) (v := .pointer (some (ad67.add (i * 4)))) (by kernel_rfl) (by kernel_rfl) (fun w' hw' => idx_run 50 56 4 _ ad67 _ _ _ _ (i * 4) ea67 (by kernel_rfl) (by omega) (by omega) (by omega)) ?_
            refine segD [10] [0, 1, 2, 7, 8, 3, 4, 5, 9, 10] [(0, .slice s.A s.l.length s.c), (5, .slice A38 ((encs s.l).length) c38), (7, .pointer (some (⟨g46, 0, none⟩))), (8, .int .i64 (i : Int)), (104, .pointer (some (⟨g46, 0, none⟩))), (109, .int .i64 x58.N), (114, .pointer (some ((ad67.add (i * 4)).add 2)))] (by kernel_rfl) ?_
            refine takeD (i := 11) (d := (some 115)) (s := vS (Instr.loadAt 24 (.pointer (some ((ad67.add (i * 4)).add 2))))) (v := .int .u64 (x58.V : Int)) (by kernel_rfl) (by kernel_rfl) (fun w' hw' => ld_run _ _ _ (by kernel_rfl) (hw'.cell (ca67 2 _ rfl) (by (try simp only [add_block]); exact (fun e => by have e : w.heap.size ≤ _ := e; omega)))) ?_
            have hdr := encs_drop hx58
            have hle := encs_le hx58
            have hsu := encs_succ hx58
            have her := herr i x58 (by omega) hx58
            have hb9 := hT.1 i x58 (by omega) hx58
            have hla : (encs (s.l.take i)).length ≤ (encs s.l).length := by omega
            rw [show encA x58 = enc x58.N.toNat x58.V from by simp [encA, actX, h64]] at hdr hsu hle
            have hpa2 : (encs (s.l.take (i + 1))).length ≤ (encs s.l).length := by rw [hsu, List.length_append]; exact hle
            have hpu : putE x58.V x58.N = 0 := by simpa [errA, actE1, h64] using her
            obtain ⟨b1, b2, b3⟩ := back_num hdr hla hpu
            have hll68 : ((encs s.l)).length = (encs s.l).length := (by first | rfl | omega | (simp; omega))
            refine stD (i := 6) (by kernel_rfl) hS65 (callR (some 110) 39 #[.pointer (some (⟨g46, 0, none⟩)), .int .i64 x58.N] Try.call39 (rnum_c w65 g46 A46 ((encs s.l).length) c46 hc50_65 hll68 (by omega) ((encs (s.l.take i)).length : Int) 0 hg53_65 (by omega) (by omega) x58.N (by omega) (by omega)) (by kernel_rfl) ?_)
            rintro _ w68 ⟨rfl, hx68, hg68⟩
            have hz68 := hx68.size
            have hc50_68 := hc50_65
            have hg52_68 := hg52_65
            have hg53_68 := hg53_65
            have hd51_68 := hd51_65
            have ox58_68 := ox58_65
            have hS65_68 := hS65
            replace hc50_68 := hc50_68.kp hx68 (fun k (hk : k = g46) => by omega)
            replace hd51_68 : Sls.Ok _ _ _ s := Dat.kp (a := s) hd51_68 hx68 (fun k (hk : k = g46) => by omega)
            replace ox58_68 : TAct.Ok _ _ _ x58 := Dat.kp (a := x58) ox58_68 hx68 (fun k (hk : k = g46) => by omega)
            replace hg52_68 := hx68.blk hg52_68 (fun e => by have e : g4 = g46 := e; omega)
            replace hS65_68 := hS65_68.step hx68 (fun k hk hlt => by have hk : k = g46 := hk; first | omega | (show False; omega))
            replace hF := hF.step hx68 (fun k hk hlt => by have hk : k = g46 := hk; omega)
            rw [b1] at hg68
            rw [b3, show (encs (s.l.take i)).length + x58.N.toNat = (encs (s.l.take (i + 1))).length from by rw [hsu]; simp only [List.length_append, enc_length]] at hg68
            rw [b1, b2]
            refine segD [12] [0, 1, 2, 7, 8, 3, 4, 5, 9, 10, 11, 6, 12] [(0, .slice s.A s.l.length s.c), (5, .slice A38 ((encs s.l).length) c38), (7, .pointer (some (⟨g46, 0, none⟩))), (8, .int .i64 (i : Int)), (116, .bool ((x58.V : Int) != (x58.V : Int)))] (by kernel_rfl) ?_
            refine endD (by kernel_rfl) hS65_68 ?_
            rw [show ((x58.V : Int) != (x58.V : Int)) = false from by simp]
            refine seg 9 [.le 0, .bl 3, .co [1, 1, 1, 1, 1, 1, 1, 1]] [(0, .slice s.A s.l.length s.c), (5, .slice A38 ((encs s.l).length) c38), (7, .pointer (some (⟨g46, 0, none⟩))), (8, .int .i64 (IntKind.i64.wrap ((i : Int) + 1)))] (by kernel_rfl) ?_
            rw [show IntKind.i64.wrap ((i : Int) + 1) = ((i : Int) + 1) from w64 (by omega)]
            refine leR (i + 1) (by omega) ⟨by omega, hpa2, hc50_68, hd51_68, hg52_68, hg68, hF⟩ (by kernel_rfl)
          · rw [hb64]
            have h64 : x58.Do ≠ 0 := by simpa using hb64
            refine seg 6 [.co [1, 1, 1, 1, 1, 1, 1, 0, 1, 0, 0, 1, 0, 0, 1, 0, 1, 1, 1], .bl 5, .bl 4, .co [1, 1, 1, 1, 1, 1, 1, 0, 1, 0, 0, 1, 1], .le 0, .bl 3, .co [1, 1, 1, 1, 1, 1, 1, 1]] [(0, .slice s.A s.l.length s.c), (5, .slice A38 ((encs s.l).length) c38), (7, .pointer (some (⟨g46, 0, none⟩))), (8, .int .i64 (i : Int)), (117, .bool (x58.Do == 1))] (by kernel_rfl) ?_
            rcases bsplit (x58.Do == 1) with hb69 | hb69
            · rw [hb69]
              have h69 : x58.Do = 1 := by simpa using hb69
              refine seg 2 [.co [1, 1, 1, 1, 1, 1, 1, 0, 1, 0, 0, 1, 0, 0, 1, 0, 1, 1, 1, 0, 0], .co [1, 1, 1, 1, 1, 1, 1, 0, 1, 0, 0, 1, 0, 0, 1, 0, 1, 1, 1, 0, 1], .bl 5, .bl 4, .co [1, 1, 1, 1, 1, 1, 1, 0, 1, 0, 0, 1, 1], .le 0, .bl 3, .co [1, 1, 1, 1, 1, 1, 1, 1]] [(0, .slice s.A s.l.length s.c), (5, .slice A38 ((encs s.l).length) c38), (7, .pointer (some (⟨g46, 0, none⟩))), (8, .int .i64 (i : Int))] (by kernel_rfl) ?_
              refine drawT (fun k => w.heap.size ≤ k) (by kernel_rfl) (by kernel_rfl) ?_
              intro w70 hx70 hz70
              have hc50_70 := hc50
              have hg52_70 := hg52
              have hg53_70 := hg53
              have hd51_70 := hd51
              have ox58_70 := ox58
              replace hc50_70 := hc50_70.ex hx70
              replace hd51_70 : Sls.Ok _ _ _ s := Dat.kp (a := s) hd51_70 hx70 (fun _ e => e.elim)
              replace ox58_70 : TAct.Ok _ _ _ x58 := Dat.kp (a := x58) ox58_70 hx70 (fun _ e => e.elim)
              replace hg52_70 := hx70.blk hg52_70 (fun e => e)
              replace hg53_70 := hx70.blk hg53_70 (fun e => e)
              replace hF := hF.ex hx70
              have hS70 := Kp.refl (fun k => w.heap.size ≤ k) w70
              refine segD [0, 1, 2, 9, 10] [0, 1, 2, 9, 10] [(0, .slice s.A s.l.length s.c), (5, .slice A38 ((encs s.l).length) c38), (7, .pointer (some (⟨g46, 0, none⟩))), (8, .int .i64 (i : Int)), (119, .pointer (some (⟨g46, 0, none⟩))), (120, .slice s.A s.l.length s.c), (121, .int .i64 (i : Int)), (128, .slice s.A s.l.length s.c), (129, .int .i64 (i : Int))] (by kernel_rfl) ?_
              obtain ⟨ad71, ea71, l171, l271, ca71⟩ := Cs.row (Sls.Ok.cs hd51_70) (n := 4) rfl (by decide) hx58
              refine takeD (i := 3) (d := (some 122)) (s := vS (Instr.indexAt 50 (.slice s.A s.l.length s.c) (.int .i64 (i : Int)))) (v := .pointer (some (ad71.add (i * 4)))) (by kernel_rfl) (by kernel_rfl) (fun w' hw' => idx_run 50 56 4 _ ad71 _ _ _ _ (i * 4) ea71 (by kernel_rfl) (by omega) (by omega) (by omega)) ?_
              refine segD [4] [0, 1, 2, 9, 10, 3, 4] [(0, .slice s.A s.l.length s.c), (5, .slice A38 ((encs s.l).length) c38), (7, .pointer (some (⟨g46, 0, none⟩))), (8, .int .i64 (i : Int)), (119, .pointer (some (⟨g46, 0, none⟩))), (123, .pointer (some ((ad71.add (i * 4)).add 3))), (128, .slice s.A s.l.length s.c), (129, .int .i64 (i : Int))] (by kernel_rfl) ?_
              refine takeD (i := 5) (d := (some 124)) (s := vS (Instr.loadAt 22 (.pointer (some ((ad71.add (i * 4)).add 3))))) (v := .slice x58.B.A x58.B.l.length x58.B.c) (by kernel_rfl) (by kernel_rfl) (fun w' hw' => ld_run _ _ _ (by kernel_rfl) (hw'.cell (ca71 3 _ rfl) (by (try simp only [add_block]); exact (fun e => by have e : w.heap.size ≤ _ := e; omega)))) ?_
              refine segD [6] [0, 1, 2, 9, 10, 3, 4, 5, 6] [(0, .slice s.A s.l.length s.c), (5, .slice A38 ((encs s.l).length) c38), (7, .pointer (some (⟨g46, 0, none⟩))), (8, .int .i64 (i : Int)), (119, .pointer (some (⟨g46, 0, none⟩))), (125, .int .i64 (x58.B.l.length : Int)), (128, .slice s.A s.l.length s.c), (129, .int .i64 (i : Int))] (by kernel_rfl) ?_
              obtain ⟨ad72, ea72, l172, l272, ca72⟩ := Cs.row (Sls.Ok.cs hd51_70) (n := 4) rfl (by decide) hx58
              refine takeD (i := 11) (d := (some 130)) (s := vS (Instr.indexAt 50 (.slice s.A s.l.length s.c) (.int .i64 (i : Int)))) (v := .pointer (some (ad72.add (i * 4)))) (by kernel_rfl) (by kernel_rfl) (fun w' hw' => idx_run 50 56 4 _ ad72 _ _ _ _ (i * 4) ea72 (by kernel_rfl) (by omega) (by omega) (by omega)) ?_
              refine segD [12] [0, 1, 2, 9, 10, 3, 4, 5, 6, 11, 12] [(0, .slice s.A s.l.length s.c), (5, .slice A38 ((encs s.l).length) c38), (7, .pointer (some (⟨g46, 0, none⟩))), (8, .int .i64 (i : Int)), (119, .pointer (some (⟨g46, 0, none⟩))), (125, .int .i64 (x58.B.l.length : Int)), (131, .pointer (some ((ad72.add (i * 4)).add 3)))] (by kernel_rfl) ?_
              refine takeD (i := 13) (d := (some 132)) (s := vS (Instr.loadAt 22 (.pointer (some ((ad72.add (i * 4)).add 3))))) (v := .slice x58.B.A x58.B.l.length x58.B.c) (by kernel_rfl) (by kernel_rfl) (fun w' hw' => ld_run _ _ _ (by kernel_rfl) (hw'.cell (ca72 3 _ rfl) (by (try simp only [add_block]); exact (fun e => by have e : w.heap.size ≤ _ := e; omega)))) ?_
              refine takeD (i := 14) (d := (some 133)) (s := vS (convert 22 9 (.slice x58.B.A x58.B.l.length x58.B.c))) (v := .string (⟨x58.B.l.toArray⟩)) (by kernel_rfl) (by kernel_rfl) (fun w' hw' => b2s_run _ _ 5 _ _ _ _ Try.underlying22 Try.underlying5 Try.underlying9 (Cs.kp (Sls.Ok.bcs ox58_70.B) hw' (fun k (hk : w.heap.size ≤ k) => .inr (by omega))) (by first | rfl | omega | (simp; done) | (simp; omega))) ?_
              have hdr := encs_drop hx58
              have hle := encs_le hx58
              have hsu := encs_succ hx58
              have her := herr i x58 (by omega) hx58
              have hb9 := hT.1 i x58 (by omega) hx58
              have hla : (encs (s.l.take i)).length ≤ (encs s.l).length := by omega
              rw [show encA x58 = x58.B.l from by simp [encA, actX, h64, h69]] at hdr hsu hle
              have hpa2 : (encs (s.l.take (i + 1))).length ≤ (encs s.l).length := by rw [hsu, List.length_append]; exact hle
              obtain ⟨b1, b2, b3⟩ := back_bytes hdr hla
              have hll73 : ((encs s.l)).length = (encs s.l).length := (by first | rfl | omega | (simp; omega))
              refine stD (i := 7) (by kernel_rfl) hS70 (callR (some 126) 41 #[.pointer (some (⟨g46, 0, none⟩)), .int .i64 (x58.B.l.length : Int)] Try.call41 (rbytes_c w70 g46 A46 ((encs s.l).length) c46 hc50_70 hll73 (by omega) ((encs (s.l.take i)).length : Int) 0 hg53_70 (by omega) (by omega) (x58.B.l.length : Int) (by omega) (by omega)) (by kernel_rfl) ?_)
              rintro _ w73 ⟨A73, c73, rfl, hn73, hx73, hg73⟩
              have hz73 := hx73.size
              have hc73 := own_cap hn73
              have hc50_73 := hc50_70
              have hg52_73 := hg52_70
              have hg53_73 := hg53_70
              have hd51_73 := hd51_70
              have ox58_73 := ox58_70
              have hS70_73 := hS70
              replace hc50_73 := hc50_73.kp hx73 (fun k (hk : k = g46) => by omega)
              replace hd51_73 : Sls.Ok _ _ _ s := Dat.kp (a := s) hd51_73 hx73 (fun k (hk : k = g46) => by omega)
              replace ox58_73 : TAct.Ok _ _ _ x58 := Dat.kp (a := x58) ox58_73 hx73 (fun k (hk : k = g46) => by omega)
              replace hg52_73 := hx73.blk hg52_73 (fun e => by have e : g4 = g46 := e; omega)
              replace hS70_73 := hS70_73.step hx73 (fun k hk hlt => by have hk : k = g46 := hk; first | omega | (show False; omega))
              replace hF := hF.step hx73 (fun k hk hlt => by have hk : k = g46 := hk; omega)
              rw [b1] at hg73
              rw [b3, show (encs (s.l.take i)).length + x58.B.l.length = (encs (s.l.take (i + 1))).length from by rw [hsu]; simp only [List.length_append, enc_length]] at hg73
              rw [b1, b2] at hn73
              rw [b1, b2]
              refine stD (i := 8) (by kernel_rfl) hS70_73 (b2sR (some 127) 22 9 5 A73 x58.B.l.length c73 x58.B.l Try.underlying22 Try.underlying5 Try.underlying9 (by kernel_rfl) (Cs.of_own hn73) (by first | rfl | omega | (simp; done) | (simp; omega)) ?_)
              refine segD [15] [0, 1, 2, 9, 10, 3, 4, 5, 6, 11, 12, 13, 14, 7, 8, 15] [(0, .slice s.A s.l.length s.c), (5, .slice A38 ((encs s.l).length) c38), (7, .pointer (some (⟨g46, 0, none⟩))), (8, .int .i64 (i : Int)), (134, .bool (!(ByteArray.toList (⟨x58.B.l.toArray⟩) == ByteArray.toList (⟨x58.B.l.toArray⟩))))] (by kernel_rfl) ?_
              refine endD (by kernel_rfl) hS70_73 ?_
              rw [show (ByteArray.toList (⟨x58.B.l.toArray⟩) == ByteArray.toList (⟨x58.B.l.toArray⟩)) = true from streq_t rfl]
              refine seg 9 [.le 0, .bl 3, .co [1, 1, 1, 1, 1, 1, 1, 1]] [(0, .slice s.A s.l.length s.c), (5, .slice A38 ((encs s.l).length) c38), (7, .pointer (some (⟨g46, 0, none⟩))), (8, .int .i64 (IntKind.i64.wrap ((i : Int) + 1)))] (by kernel_rfl) ?_
              rw [show IntKind.i64.wrap ((i : Int) + 1) = ((i : Int) + 1) from w64 (by omega)]
              refine leR (i + 1) (by omega) ⟨by omega, hpa2, hc50_73, hd51_73, hg52_73, hg73, hF⟩ (by kernel_rfl)
            · rw [hb69]
              have h69 : x58.Do ≠ 1 := by simpa using hb69
              refine seg 2 [.co [1, 1, 1, 1, 1, 1, 1, 0, 1, 0, 0, 1, 0, 0, 1, 0, 1, 1, 1, 1, 0], .co [1, 1, 1, 1, 1, 1, 1, 0, 1, 0, 0, 1, 0, 0, 1, 0, 1, 1, 1, 1, 1], .bl 5, .bl 4, .co [1, 1, 1, 1, 1, 1, 1, 0, 1, 0, 0, 1, 1], .le 0, .bl 3, .co [1, 1, 1, 1, 1, 1, 1, 1]] [(0, .slice s.A s.l.length s.c), (5, .slice A38 ((encs s.l).length) c38), (7, .pointer (some (⟨g46, 0, none⟩))), (8, .int .i64 (i : Int))] (by kernel_rfl) ?_
              refine drawT (fun k => w.heap.size ≤ k) (by kernel_rfl) (by kernel_rfl) ?_
              intro w74 hx74 hz74
              have hc50_74 := hc50
              have hg52_74 := hg52
              have hg53_74 := hg53
              have hd51_74 := hd51
              have ox58_74 := ox58
              replace hc50_74 := hc50_74.ex hx74
              replace hd51_74 : Sls.Ok _ _ _ s := Dat.kp (a := s) hd51_74 hx74 (fun _ e => e.elim)
              replace ox58_74 : TAct.Ok _ _ _ x58 := Dat.kp (a := x58) ox58_74 hx74 (fun _ e => e.elim)
              replace hg52_74 := hx74.blk hg52_74 (fun e => e)
              replace hg53_74 := hx74.blk hg53_74 (fun e => e)
              replace hF := hF.ex hx74
              have hS74 := Kp.refl (fun k => w.heap.size ≤ k) w74
              refine segD [0, 3, 4] [0, 3, 4] [(0, .slice s.A s.l.length s.c), (5, .slice A38 ((encs s.l).length) c38), (7, .pointer (some (⟨g46, 0, none⟩))), (8, .int .i64 (i : Int)), (92, .pointer (some (⟨g46, 0, none⟩))), (95, .slice s.A s.l.length s.c), (96, .int .i64 (i : Int))] (by kernel_rfl) ?_
              obtain ⟨ad75, ea75, l175, l275, ca75⟩ := Cs.row (Sls.Ok.cs hd51_74) (n := 4) rfl (by decide) hx58
              refine takeD (i := 5) (d := (some 97)) (s := vS (Instr.indexAt 50 (.slice s.A s.l.length s.c) (.int .i64 (i : Int)))) (v := .pointer (some (ad75.add (i * 4)))) (by kernel_rfl) (by kernel_rfl) (fun w' hw' => idx_run 50 56 4 _ ad75 _ _ _ _ (i * 4) ea75 (by kernel_rfl) (by omega) (by omega) (by omega)) ?_
              refine segD [6] [0, 3, 4, 5, 6] [(0, .slice s.A s.l.length s.c), (5, .slice A38 ((encs s.l).length) c38), (7, .pointer (some (⟨g46, 0, none⟩))), (8, .int .i64 (i : Int)), (92, .pointer (some (⟨g46, 0, none⟩))), (98, .pointer (some ((ad75.add (i * 4)).add 3)))] (by kernel_rfl) ?_
              refine takeD (i := 7) (d := (some 99)) (s := vS (Instr.loadAt 22 (.pointer (some ((ad75.add (i * 4)).add 3))))) (v := .slice x58.B.A x58.B.l.length x58.B.c) (by kernel_rfl) (by kernel_rfl) (fun w' hw' => ld_run _ _ _ (by kernel_rfl) (hw'.cell (ca75 3 _ rfl) (by (try simp only [add_block]); exact (fun e => by have e : w.heap.size ≤ _ := e; omega)))) ?_
              refine takeD (i := 8) (d := (some 100)) (s := vS (convert 22 9 (.slice x58.B.A x58.B.l.length x58.B.c))) (v := .string (⟨x58.B.l.toArray⟩)) (by kernel_rfl) (by kernel_rfl) (fun w' hw' => b2s_run _ _ 5 _ _ _ _ Try.underlying22 Try.underlying5 Try.underlying9 (Cs.kp (Sls.Ok.bcs ox58_74.B) hw' (fun k (hk : w.heap.size ≤ k) => .inr (by omega))) (by first | rfl | omega | (simp; done) | (simp; omega))) ?_
              have hdr := encs_drop hx58
              have hle := encs_le hx58
              have hsu := encs_succ hx58
              have her := herr i x58 (by omega) hx58
              have hb9 := hT.1 i x58 (by omega) hx58
              have hla : (encs (s.l.take i)).length ≤ (encs s.l).length := by omega
              rw [show encA x58 = enc 2 x58.B.l.length ++ x58.B.l from by simp [encA, actX, h64, h69]] at hdr hsu hle
              have hpa2 : (encs (s.l.take (i + 1))).length ≤ (encs s.l).length := by rw [hsu, List.length_append]; exact hle
              obtain ⟨b1, b2, b3⟩ := back_text hdr hla hb9
              have hll76 : ((encs s.l)).length = (encs s.l).length := (by first | rfl | omega | (simp; omega))
              refine stD (i := 1) (by kernel_rfl) hS74 (callR (some 93) 40 #[.pointer (some (⟨g46, 0, none⟩)), .int .i64 1000] Try.call40 (rtext_c w74 g46 A46 ((encs s.l).length) c46 hc50_74 hll76 (by omega) ((encs (s.l.take i)).length : Int) 0 hg53_74 (by omega) (by omega) 1000 (by omega) (by omega)) (by kernel_rfl) ?_)
              rintro _ w76 ⟨A76, c76, rfl, hn76, hx76, hg76⟩
              have hz76 := hx76.size
              have hc76 := own_cap hn76
              have hc50_76 := hc50_74
              have hg52_76 := hg52_74
              have hg53_76 := hg53_74
              have hd51_76 := hd51_74
              have ox58_76 := ox58_74
              have hS74_76 := hS74
              replace hc50_76 := hc50_76.kp hx76 (fun k (hk : k = g46) => by omega)
              replace hd51_76 : Sls.Ok _ _ _ s := Dat.kp (a := s) hd51_76 hx76 (fun k (hk : k = g46) => by omega)
              replace ox58_76 : TAct.Ok _ _ _ x58 := Dat.kp (a := x58) ox58_76 hx76 (fun k (hk : k = g46) => by omega)
              replace hg52_76 := hx76.blk hg52_76 (fun e => by have e : g4 = g46 := e; omega)
              replace hS74_76 := hS74_76.step hx76 (fun k hk hlt => by have hk : k = g46 := hk; first | omega | (show False; omega))
              replace hF := hF.step hx76 (fun k hk hlt => by have hk : k = g46 := hk; omega)
              rw [b1] at hg76
              rw [b3, show (encs (s.l.take i)).length + (2 + x58.B.l.length) = (encs (s.l.take (i + 1))).length from by rw [hsu]; simp only [List.length_append, enc_length]] at hg76
              rw [b1, b2] at hn76
              rw [b1, b2]
              refine stD (i := 2) (by kernel_rfl) hS74_76 (b2sR (some 94) 22 9 5 A76 x58.B.l.length c76 x58.B.l Try.underlying22 Try.underlying5 Try.underlying9 (by kernel_rfl) (Cs.of_own hn76) (by first | rfl | omega | (simp; done) | (simp; omega)) ?_)
              refine segD [9] [0, 3, 4, 5, 6, 7, 8, 1, 2, 9] [(0, .slice s.A s.l.length s.c), (5, .slice A38 ((encs s.l).length) c38), (7, .pointer (some (⟨g46, 0, none⟩))), (8, .int .i64 (i : Int)), (101, .bool (!(ByteArray.toList (⟨x58.B.l.toArray⟩) == ByteArray.toList (⟨x58.B.l.toArray⟩))))] (by kernel_rfl) ?_
              refine endD (by kernel_rfl) hS74_76 ?_
              rw [show (ByteArray.toList (⟨x58.B.l.toArray⟩) == ByteArray.toList (⟨x58.B.l.toArray⟩)) = true from streq_t rfl]
              refine seg 9 [.le 0, .bl 3, .co [1, 1, 1, 1, 1, 1, 1, 1]] [(0, .slice s.A s.l.length s.c), (5, .slice A38 ((encs s.l).length) c38), (7, .pointer (some (⟨g46, 0, none⟩))), (8, .int .i64 (IntKind.i64.wrap ((i : Int) + 1)))] (by kernel_rfl) ?_
              rw [show IntKind.i64.wrap ((i : Int) + 1) = ((i : Int) + 1) from w64 (by omega)]
              refine leR (i + 1) (by omega) ⟨by omega, hpa2, hc50_76, hd51_76, hg52_76, hg76, hF⟩ (by kernel_rfl)
        · rw [hb56]
          have h56 := of_decide_eq_false hb56
          refine seg 5 [.op [1, 1, 1, 1, 1, 1, 1, 1, 0] 1, .co [1, 1, 1, 1, 1, 1, 1, 1, 1]] [(5, .slice A38 ((encs s.l).length) c38), (7, .pointer (some (⟨g46, 0, none⟩))), (136, .pointer (some (⟨g46, 0, none⟩)))] (by kernel_rfl) ?_
          refine st (callR (some 137) 42 #[.pointer (some (⟨g46, 0, none⟩))] Try.call42 (rerr_c wl49 g46 A46 ((encs s.l).length) c46 ((encs (s.l.take i)).length : Int) 0 hg53 (by omega) (by omega)) (by kernel_rfl) ?_)
          rintro _ w77 ⟨rfl, hx77⟩
          have hz77 := hx77.size
          replace hc50 := hc50.ex hx77
          replace hd51 : Sls.Ok _ _ _ s := Dat.kp (a := s) hd51 hx77 (fun _ e => e.elim)
          replace hg52 := hx77.blk hg52 (fun e => e)
          replace hg53 := hx77.blk hg53 (fun e => e)
          replace hF := hF.ex hx77
          refine seg 9 [.op [1, 1, 1, 1, 1, 1, 1, 1, 1, 0] 1, .co [1, 1, 1, 1, 1, 1, 1, 1, 1, 1]] [(5, .slice A38 ((encs s.l).length) c38), (7, .pointer (some (⟨g46, 0, none⟩))), (9, .int .i64 ((encs (s.l.take i)).length : Int)), (140, .int .i64 0)] (by kernel_rfl) ?_
          refine st (callR (some 141) 18 #[.int .i64 0] Try.call18 (num_c w77 0) (by kernel_rfl) ?_)
          rintro _ _ ⟨rfl, rfl⟩
          refine seg 8 [.op [1, 1, 1, 1, 1, 1, 1, 1, 1, 0] 10, .co [1, 1, 1, 1, 1, 1, 1, 1, 1, 1]] [(7, .pointer (some (⟨g46, 0, none⟩))), (149, .bool (((encs (s.l.take i)).length : Int) == ((encs s.l).length : Int)))] (by kernel_rfl) ?_
          rw [show (((encs (s.l.take i)).length : Int) == ((encs s.l).length : Int)) = true from by rw [List.take_of_length_le (show s.l.length ≤ i by omega)]; simp]
          refine seg 1 [.op [1, 1, 1, 1, 1, 1, 1, 1, 1, 0] 11, .co [1, 1, 1, 1, 1, 1, 1, 1, 1, 1]] [(149, .bool true), (150, .pointer (some (⟨g46, 0, none⟩)))] (by kernel_rfl) ?_
          refine st (callR (some 151) 43 #[.pointer (some (⟨g46, 0, none⟩))] Try.call43 (rleft_c w77 g46 A46 ((encs s.l).length) c46 ((encs (s.l.take i)).length : Int) 0 hg53 (by omega) (by omega)) (by kernel_rfl) ?_)
          rintro _ w78 ⟨rfl, hx78⟩
          have hz78 := hx78.size
          replace hc50 := hc50.ex hx78
          replace hd51 : Sls.Ok _ _ _ s := Dat.kp (a := s) hd51 hx78 (fun _ e => e.elim)
          replace hg52 := hx78.blk hg52 (fun e => e)
          replace hg53 := hx78.blk hg53 (fun e => e)
          replace hF := hF.ex hx78
          refine seg 3 [.op [1, 1, 1, 1, 1, 1, 1, 1, 1, 0] 15, .co [1, 1, 1, 1, 1, 1, 1, 1, 1, 1]] [(154, .bool ((((encs s.l).length : Int) - ((encs (s.l.take i)).length : Int)) == 0))] (by kernel_rfl) ?_
          rw [show ((((encs s.l).length : Int) - ((encs (s.l.take i)).length : Int)) == 0) = true from by rw [List.take_of_length_le (show s.l.length ≤ i by omega)]; simp]
          refine st (callR (some 155) 15 #[] Try.call15 (live_c w78) (by kernel_rfl) ?_)
          rintro _ w79 ⟨rfl, hx79⟩
          have hz79 := hx79.size
          replace hc50 := hc50.ex hx79
          replace hd51 : Sls.Ok _ _ _ s := Dat.kp (a := s) hd51 hx79 (fun _ e => e.elim)
          replace hg52 := hx79.blk hg52 (fun e => e)
          replace hg53 := hx79.blk hg53 (fun e => e)
          replace hF := hF.ex hx79
          refine seg 3 [.co [1, 1, 1, 1, 1, 1, 1, 1, 1, 1]] [(2, .bool true)] (by kernel_rfl) ?_
          refine retR [2] [.bool true] (by kernel_rfl) (by kernel_rfl) (by kernel_rfl) ?_
          exact ⟨_, rfl, rfl, hF⟩

end Go.Proofs.Ytgkiegplmohgkaa.F
