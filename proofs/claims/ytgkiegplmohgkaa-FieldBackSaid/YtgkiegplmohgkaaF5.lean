/- the reference: readers, writers -/
import Derived.Test.YtgkiegplmohgkaaF3
import Derived.Test.YtgkiegplmohgkaaT
set_option linter.unusedVariables false
set_option linter.unusedSimpArgs false
namespace Go.Proofs.Ytgkiegplmohgkaa.F
open Go Go.RowKit Go.Proofs.Ytgkiegplmohgkaa.K
theorem rread_c (w : World) (m c : Nat) (A : Option Addr) {lo hi : Nat} {l : List UInt8} (h : Cs lo hi w A (bs l)) (hml : l.length = m) (hmc : m ≤ c) (hhi : hi ≤ w.heap.size) (a e0 : Int) (hl : m ≤ 140737400000000) (ha : 0 ≤ a ∧ a ≤ m) (x : TAct) (hx : TAct.Ok 0 w.heap.size w x) :
    Calls Try.prog 38 #[.agg #[.slice A m c, .int .i64 a, .int .i64 e0], .agg #[.int .i64 x.Do, .int .i64 x.N, .int .u64 (x.V : Int), .slice x.B.A x.B.l.length x.B.c]] w fun e w' => ∃ v, e = .returned v ∧ (∃ A' c', v = .tuple #[.agg #[.slice A m c, .int .i64 (rdA x.Do x.N l a (rdE x.Do x.N l a e0)), .int .i64 (rdE x.Do x.N l a e0)], .agg #[.int .u64 ((rdV x.Do x.N l a (rdE x.Do x.N l a e0) : Nat) : Int), .slice A' (rdL x.Do x.N l a (rdE x.Do x.N l a e0)).length c']] ∧ Ex w w' ∧ Cs lo hi w' A' (bs (rdL x.Do x.N l a (rdE x.Do x.N l a e0))) ∧ (rdL x.Do x.N l a (rdE x.Do x.N l a e0)).length ≤ c') := by
  refine callsR Try.func38 (by kernel_rfl) (by kernel_rfl) ?_
  have hF : Ex w w := Kp.refl _ _
  have hmx : maxLen = 9223372036854775807 := rfl
  have q2 : -9223372036854775808 ≤ x.Do ∧ x.Do ≤ 9223372036854775807 := hx.Do
  have q3 : -9223372036854775808 ≤ x.N ∧ x.N ≤ 9223372036854775807 := hx.N
  have q4 : x.V < 18446744073709551616 := hx.V
  have q5 : x.B.l.length ≤ x.B.c := Sls.Ok.le hx.B
  have q5m : x.B.c ≤ maxLen := Sls.Ok.max hx.B
  refine seg 2 [.op [0] 0, .co [1]] [(0, .agg #[.slice A m c, .int .i64 a, .int .i64 e0]), (1, .agg #[.int .i64 x.Do, .int .i64 x.N, .int .u64 (x.V : Int), .slice x.B.A x.B.l.length x.B.c])] (by kernel_rfl) ?_
  refine st (newR (some 2) (fun g => .pointer (some ⟨g, 0, none⟩)) (.cells #[.slice A m c, .int .i64 a, .int .i64 e0] 66) (by kernel_rfl) ?_)
  intro g6 w6 hgs6 hx6 hg6 hz6
  replace h := h.ex hx6
  replace hx : TAct.Ok _ _ _ x := Dat.kp (a := x) hx hx6 (fun _ e => e.elim)
  replace hF := hF.ex hx6
  refine st (newR (some 3) (fun g => .pointer (some ⟨g, 0, none⟩)) (.cells #[.int .i64 x.Do, .int .i64 x.N, .int .u64 (x.V : Int), .slice x.B.A x.B.l.length x.B.c] 56) (by kernel_rfl) ?_)
  intro g7 w7 hgs7 hx7 hg7 hz7
  replace h := h.ex hx7
  replace hx : TAct.Ok _ _ _ x := Dat.kp (a := x) hx hx7 (fun _ e => e.elim)
  replace hg6 := hx7.blk hg6 (fun e => e)
  replace hF := hF.ex hx7
  refine st (newR (some 4) (fun g => .pointer (some ⟨g, 0, none⟩)) (.cells #[.slice none 0 0, .int .i64 0, .int .i64 0] 66) (by kernel_rfl) ?_)
  intro g8 w8 hgs8 hx8 hg8 hz8
  replace h := h.ex hx8
  replace hx : TAct.Ok _ _ _ x := Dat.kp (a := x) hx hx8 (fun _ e => e.elim)
  replace hg6 := hx8.blk hg6 (fun e => e)
  replace hg7 := hx8.blk hg7 (fun e => e)
  replace hF := hF.ex hx8
  refine st (newR (some 5) (fun g => .pointer (some ⟨g, 0, none⟩)) (.cells #[.int .u64 0, .slice none 0 0] 68) (by kernel_rfl) ?_)
  intro g9 w9 hgs9 hx9 hg9 hz9
  replace h := h.ex hx9
  replace hx : TAct.Ok _ _ _ x := Dat.kp (a := x) hx hx9 (fun _ e => e.elim)
  replace hg6 := hx9.blk hg6 (fun e => e)
  replace hg7 := hx9.blk hg7 (fun e => e)
  replace hg8 := hx9.blk hg8 (fun e => e)
  replace hF := hF.ex hx9
  refine seg 5 [.op [1, 0, 0] 1, .co [1, 0, 1], .co [1, 1]] [(2, .pointer (some (⟨g6, 0, none⟩))), (3, .pointer (some (⟨g7, 0, none⟩))), (4, .pointer (some (⟨g8, 0, none⟩))), (5, .pointer (some (⟨g9, 0, none⟩))), (8, .pointer (some (⟨g6, 2, none⟩)))] (by kernel_rfl) ?_
  refine st (ldR (some 9) 3 (⟨g6, 2, none⟩) (.int .i64 e0) (by kernel_rfl) (by kernel_rfl) (blk_cell hg6 rfl) ?_)
  refine seg 2 [.co [1, 0, 1], .co [1, 1]] [(2, .pointer (some (⟨g6, 0, none⟩))), (3, .pointer (some (⟨g7, 0, none⟩))), (4, .pointer (some (⟨g8, 0, none⟩))), (5, .pointer (some (⟨g9, 0, none⟩))), (10, .bool (e0 != 0))] (by kernel_rfl) ?_
  rcases bsplit (e0 != 0) with hb10 | hb10
  · rw [hb10]
    have h10 : e0 ≠ 0 := by simpa using hb10
    refine seg 3 [.op [1, 0, 1, 0, 0] 0, .co [1, 0, 1, 0, 1], .co [1, 1]] [(2, .pointer (some (⟨g6, 0, none⟩))), (4, .pointer (some (⟨g8, 0, none⟩))), (5, .pointer (some (⟨g9, 0, none⟩)))] (by kernel_rfl) ?_
    refine st (ldAggR (some 11) 66 (⟨g6, 0, none⟩) [.slice A m c, .int .i64 a, .int .i64 e0] (by kernel_rfl) (by kernel_rfl) (blk_cells hg6 (by kernel_rfl)) ?_)
    refine seg 1 [.op [1, 0, 1, 0, 0] 2, .co [1, 0, 1, 0, 1], .co [1, 1]] [(4, .pointer (some (⟨g8, 0, none⟩))), (5, .pointer (some (⟨g9, 0, none⟩))), (11, .agg #[.slice A m c, .int .i64 a, .int .i64 e0]), (12, .agg #[.int .u64 0, .slice none 0 0])] (by kernel_rfl) ?_
    refine st (stAggR none 66 g8 0 [.slice A m c, .int .i64 a, .int .i64 e0] #[.slice none 0 0, .int .i64 0, .int .i64 0] #[.slice A m c, .int .i64 a, .int .i64 e0] 66 (by kernel_rfl) (by kernel_rfl) (by rfl) hg8 (by simp) (by rfl) ?_)
    intro w11 hx11 hg11 hz11
    replace h := h.kp hx11 (fun k (hk : k = g8) => by omega)
    replace hg9 := hx11.blk hg9 (fun e => by have e : g9 = g8 := e; omega)
    replace hF := hF.step hx11 (fun k hk hlt => by have hk : k = g8 := hk; omega)
    refine st (stAggR none 68 g9 0 [.int .u64 0, .slice none 0 0] #[.int .u64 0, .slice none 0 0] #[.int .u64 0, .slice none 0 0] 68 (by kernel_rfl) (by kernel_rfl) (by rfl) hg9 (by simp) (by rfl) ?_)
    intro w12 hx12 hg12 hz12
    replace h := h.kp hx12 (fun k (hk : k = g9) => by omega)
    replace hg11 := hx12.blk hg11 (fun e => by have e : g8 = g9 := e; omega)
    replace hF := hF.step hx12 (fun k hk hlt => by have hk : k = g9 := hk; omega)
    refine seg 1 [.co [1, 0, 1, 0, 1], .co [1, 1]] [(4, .pointer (some (⟨g8, 0, none⟩))), (5, .pointer (some (⟨g9, 0, none⟩)))] (by kernel_rfl) ?_
    refine retC [.agg #[.slice A m c, .int .i64 a, .int .i64 e0], .agg #[.int .u64 0, .slice none 0 0]] (by kernel_rfl) ⟨⟨_, rfl, ldv_agg 66 (⟨g8, 0, none⟩) [.slice A m c, .int .i64 a, .int .i64 e0] (by kernel_rfl) (blk_cells hg11 (by rfl))⟩, ⟨_, rfl, ldv_agg 68 (⟨g9, 0, none⟩) [.int .u64 0, .slice none 0 0] (by kernel_rfl) (blk_cells hg12 (by rfl))⟩, trivial⟩ ?_
    have ee : rdE x.Do x.N l a e0 = e0 := by simp [rdE, takeE, textE, numW, hml, h10]
    rw [ee]
    have ez : (e0 : Int) ≠ 0 := by first | assumption | decide
    have ea : rdA x.Do x.N l a e0 = a := by simp [rdA, takeA, textA, ez]
    have ev : rdV x.Do x.N l a e0 = 0 := by simp [rdV, takeL, ez, le]
    have el : rdL x.Do x.N l a e0 = [] := by simp [rdL, takeL, textL, ez]
    rw [ea, ev, el]
    exact ⟨_, rfl, none, 0, rfl, hF, Cs.nil _ _ _ _, Nat.le_refl _⟩
  · rw [hb10]
    have h10 : e0 = 0 := by simpa using hb10
    refine seg 5 [.op [1, 1, 0] 1, .co [1, 1, 1]] [(2, .pointer (some (⟨g6, 0, none⟩))), (3, .pointer (some (⟨g7, 0, none⟩))), (4, .pointer (some (⟨g8, 0, none⟩))), (5, .pointer (some (⟨g9, 0, none⟩))), (13, .pointer (some (⟨g7, 1, none⟩)))] (by kernel_rfl) ?_
    refine st (ldR (some 14) 3 (⟨g7, 1, none⟩) (.int .i64 x.N) (by kernel_rfl) (by kernel_rfl) (blk_cell hg7 rfl) ?_)
    refine seg 5 [.op [1, 1, 1, 0] 1, .co [1, 1, 1, 1]] [(2, .pointer (some (⟨g6, 0, none⟩))), (3, .pointer (some (⟨g7, 0, none⟩))), (4, .pointer (some (⟨g8, 0, none⟩))), (5, .pointer (some (⟨g9, 0, none⟩))), (6, .int .i64 x.N), (15, .pointer (some (⟨g6, 1, none⟩)))] (by kernel_rfl) ?_
    refine st (ldR (some 16) 3 (⟨g6, 1, none⟩) (.int .i64 a) (by kernel_rfl) (by kernel_rfl) (blk_cell hg6 rfl) ?_)
    refine seg 6 [.op [1, 1, 1, 1, 0, 0] 1, .co [1, 1, 1, 1, 0, 1], .co [1, 1, 1, 1, 1]] [(2, .pointer (some (⟨g6, 0, none⟩))), (3, .pointer (some (⟨g7, 0, none⟩))), (4, .pointer (some (⟨g8, 0, none⟩))), (5, .pointer (some (⟨g9, 0, none⟩))), (6, .int .i64 x.N), (7, .int .i64 a), (17, .pointer (some (⟨g7, 0, none⟩)))] (by kernel_rfl) ?_
    refine st (ldR (some 18) 3 (⟨g7, 0, none⟩) (.int .i64 x.Do) (by kernel_rfl) (by kernel_rfl) (blk_cell hg7 rfl) ?_)
    refine seg 2 [.op [1, 1, 1, 1, 0, 0] 4, .co [1, 1, 1, 1, 0, 1], .co [1, 1, 1, 1, 1]] [(2, .pointer (some (⟨g6, 0, none⟩))), (3, .pointer (some (⟨g7, 0, none⟩))), (4, .pointer (some (⟨g8, 0, none⟩))), (5, .pointer (some (⟨g9, 0, none⟩))), (6, .int .i64 x.N), (7, .int .i64 a), (20, .bool (x.Do == 0))] (by kernel_rfl) ?_
    rcases bsplit (x.Do == 0) with hb13 | hb13
    · rw [hb13]
      have h13 : x.Do = 0 := by simpa using hb13
      refine seg 1 [.op [1, 1, 1, 1, 0, 0] 5, .co [1, 1, 1, 1, 0, 1], .co [1, 1, 1, 1, 1]] [(2, .pointer (some (⟨g6, 0, none⟩))), (3, .pointer (some (⟨g7, 0, none⟩))), (4, .pointer (some (⟨g8, 0, none⟩))), (5, .pointer (some (⟨g9, 0, none⟩))), (6, .int .i64 x.N), (7, .int .i64 a), (20, .bool true), (21, .int .i64 x.N)] (by kernel_rfl) ?_
      refine st (callR (some 22) 20 #[.int .i64 x.N] Try.call20 (rwidth_c w9 x.N) (by kernel_rfl) ?_)
      rintro _ _ ⟨rfl, rfl⟩
      refine seg 3 [.op [1, 1, 1, 1, 0, 0] 9, .co [1, 1, 1, 1, 0, 1], .co [1, 1, 1, 1, 1]] [(2, .pointer (some (⟨g6, 0, none⟩))), (3, .pointer (some (⟨g7, 0, none⟩))), (4, .pointer (some (⟨g8, 0, none⟩))), (5, .pointer (some (⟨g9, 0, none⟩))), (6, .int .i64 x.N), (7, .int .i64 a), (25, .bool (!(wideB x.N)))] (by kernel_rfl) ?_
      rcases bsplit (wideB x.N) with hb14 | hb14
      · rw [hb14]
        have h14 := wide_of hb14
        refine seg 4 [.co [1, 1, 1, 1, 0, 1], .co [1, 1, 1, 1, 1]] [(2, .pointer (some (⟨g6, 0, none⟩))), (3, .pointer (some (⟨g7, 0, none⟩))), (4, .pointer (some (⟨g8, 0, none⟩))), (5, .pointer (some (⟨g9, 0, none⟩))), (6, .int .i64 x.N), (7, .int .i64 a), (28, .bool (decide (x.N < 0)))] (by kernel_rfl) ?_
        rcases bsplit (decide (x.N < 0)) with hb15 | hb15
        · rw [hb15]
          have h15 := of_decide_eq_true hb15
          refine seg 4 [.op [1, 1, 1, 1, 0, 1, 0, 0] 1, .co [1, 1, 1, 1, 0, 1, 0, 1], .co [1, 1, 1, 1, 1]] [(2, .pointer (some (⟨g6, 0, none⟩))), (4, .pointer (some (⟨g8, 0, none⟩))), (5, .pointer (some (⟨g9, 0, none⟩))), (29, .pointer (some (⟨g6, 2, none⟩)))] (by kernel_rfl) ?_
          refine st (stR none 3 g6 2 (.int .i64 1) #[.slice A m c, .int .i64 a, .int .i64 e0] 66 (by kernel_rfl) (by kernel_rfl) rfl hg6 (by simp) ?_)
          intro w16 hx16 hg16 hz16
          replace h := h.kp hx16 (fun k (hk : k = g6) => by omega)
          replace hg8 := hx16.blk hg8 (fun e => by have e : g8 = g6 := e; omega)
          replace hg9 := hx16.blk hg9 (fun e => by have e : g9 = g6 := e; omega)
          replace hF := hF.step hx16 (fun k hk hlt => by have hk : k = g6 := hk; omega)
          replace hg16 : w16.heap[g6]? = some (.cells #[.slice A m c, .int .i64 a, .int .i64 1] 66 (0, 0)) := hg16
          refine seg 3 [.op [1, 1, 1, 1, 0, 1, 0, 1, 0] 0, .co [1, 1, 1, 1, 0, 1, 0, 1, 1], .co [1, 1, 1, 1, 1]] [(2, .pointer (some (⟨g6, 0, none⟩))), (4, .pointer (some (⟨g8, 0, none⟩))), (5, .pointer (some (⟨g9, 0, none⟩)))] (by kernel_rfl) ?_
          refine st (ldAggR (some 30) 66 (⟨g6, 0, none⟩) [.slice A m c, .int .i64 a, .int .i64 1] (by kernel_rfl) (by kernel_rfl) (blk_cells hg16 (by kernel_rfl)) ?_)
          refine seg 1 [.op [1, 1, 1, 1, 0, 1, 0, 1, 0] 2, .co [1, 1, 1, 1, 0, 1, 0, 1, 1], .co [1, 1, 1, 1, 1]] [(4, .pointer (some (⟨g8, 0, none⟩))), (5, .pointer (some (⟨g9, 0, none⟩))), (30, .agg #[.slice A m c, .int .i64 a, .int .i64 1]), (31, .agg #[.int .u64 0, .slice none 0 0])] (by kernel_rfl) ?_
          refine st (stAggR none 66 g8 0 [.slice A m c, .int .i64 a, .int .i64 1] #[.slice none 0 0, .int .i64 0, .int .i64 0] #[.slice A m c, .int .i64 a, .int .i64 1] 66 (by kernel_rfl) (by kernel_rfl) (by rfl) hg8 (by simp) (by rfl) ?_)
          intro w17 hx17 hg17 hz17
          replace h := h.kp hx17 (fun k (hk : k = g8) => by omega)
          replace hg9 := hx17.blk hg9 (fun e => by have e : g9 = g8 := e; omega)
          replace hF := hF.step hx17 (fun k hk hlt => by have hk : k = g8 := hk; omega)
          refine st (stAggR none 68 g9 0 [.int .u64 0, .slice none 0 0] #[.int .u64 0, .slice none 0 0] #[.int .u64 0, .slice none 0 0] 68 (by kernel_rfl) (by kernel_rfl) (by rfl) hg9 (by simp) (by rfl) ?_)
          intro w18 hx18 hg18 hz18
          replace h := h.kp hx18 (fun k (hk : k = g9) => by omega)
          replace hg17 := hx18.blk hg17 (fun e => by have e : g8 = g9 := e; omega)
          replace hF := hF.step hx18 (fun k hk hlt => by have hk : k = g9 := hk; omega)
          refine seg 1 [.co [1, 1, 1, 1, 0, 1, 0, 1, 1], .co [1, 1, 1, 1, 1]] [(4, .pointer (some (⟨g8, 0, none⟩))), (5, .pointer (some (⟨g9, 0, none⟩)))] (by kernel_rfl) ?_
          refine retC [.agg #[.slice A m c, .int .i64 a, .int .i64 1], .agg #[.int .u64 0, .slice none 0 0]] (by kernel_rfl) ⟨⟨_, rfl, ldv_agg 66 (⟨g8, 0, none⟩) [.slice A m c, .int .i64 a, .int .i64 1] (by kernel_rfl) (blk_cells hg17 (by rfl))⟩, ⟨_, rfl, ldv_agg 68 (⟨g9, 0, none⟩) [.int .u64 0, .slice none 0 0] (by kernel_rfl) (blk_cells hg18 (by rfl))⟩, trivial⟩ ?_
          have ee : rdE x.Do x.N l a e0 = 1 := by simp [rdE, takeE, textE, numW, hml, h10, h13, hb14, h15]
          rw [ee]
          have ez : (1 : Int) ≠ 0 := by first | assumption | decide
          have ea : rdA x.Do x.N l a 1 = a := by simp [rdA, takeA, textA, ez]
          have ev : rdV x.Do x.N l a 1 = 0 := by simp [rdV, takeL, ez, le]
          have el : rdL x.Do x.N l a 1 = [] := by simp [rdL, takeL, textL, ez]
          rw [ea, ev, el]
          exact ⟨_, rfl, none, 0, rfl, hF, Cs.nil _ _ _ _, Nat.le_refl _⟩
        · rw [hb15]
          have h15 := of_decide_eq_false hb15
          refine seg 6 [.op [1, 1, 1, 1, 1, 0, 0] 1, .co [1, 1, 1, 1, 1, 0, 1], .co [1, 1, 1, 1, 1, 1]] [(2, .pointer (some (⟨g6, 0, none⟩))), (3, .pointer (some (⟨g7, 0, none⟩))), (4, .pointer (some (⟨g8, 0, none⟩))), (5, .pointer (some (⟨g9, 0, none⟩))), (6, .int .i64 x.N), (7, .int .i64 a), (32, .pointer (some (⟨g7, 0, none⟩)))] (by kernel_rfl) ?_
          refine st (ldR (some 33) 3 (⟨g7, 0, none⟩) (.int .i64 x.Do) (by kernel_rfl) (by kernel_rfl) (blk_cell hg7 rfl) ?_)
          refine seg 2 [.co [1, 1, 1, 1, 1, 0, 1], .co [1, 1, 1, 1, 1, 1]] [(2, .pointer (some (⟨g6, 0, none⟩))), (3, .pointer (some (⟨g7, 0, none⟩))), (4, .pointer (some (⟨g8, 0, none⟩))), (5, .pointer (some (⟨g9, 0, none⟩))), (6, .int .i64 x.N), (7, .int .i64 a), (34, .bool (x.Do == 2))] (by kernel_rfl) ?_
          rw [show (x.Do == 2) = false from by rw [h13]; rfl]
          refine seg 6 [.op [1, 1, 1, 1, 1, 1, 0, 0] 1, .co [1, 1, 1, 1, 1, 1, 0, 1], .co [1, 1, 1, 1, 1, 1, 1]] [(2, .pointer (some (⟨g6, 0, none⟩))), (3, .pointer (some (⟨g7, 0, none⟩))), (4, .pointer (some (⟨g8, 0, none⟩))), (5, .pointer (some (⟨g9, 0, none⟩))), (6, .int .i64 x.N), (7, .int .i64 a), (57, .pointer (some (⟨g6, 0, none⟩)))] (by kernel_rfl) ?_
          refine st (ldR (some 58) 22 (⟨g6, 0, none⟩) (.slice A m c) (by kernel_rfl) (by kernel_rfl) (blk_cell hg6 rfl) ?_)
          refine seg 2 [.op [1, 1, 1, 1, 1, 1, 0, 0] 4, .co [1, 1, 1, 1, 1, 1, 0, 1], .co [1, 1, 1, 1, 1, 1, 1]] [(2, .pointer (some (⟨g6, 0, none⟩))), (3, .pointer (some (⟨g7, 0, none⟩))), (4, .pointer (some (⟨g8, 0, none⟩))), (5, .pointer (some (⟨g9, 0, none⟩))), (6, .int .i64 x.N), (7, .int .i64 a), (58, .slice A m c), (59, .int .i64 a), (60, .int .i64 x.N)] (by kernel_rfl) ?_
          refine st (callR (some 61) 26 #[.slice A m c, .int .i64 a, .int .i64 x.N] Try.call26 (rin_c w9 A m c a x.N (by omega) (by omega) (by omega)) (by kernel_rfl) ?_)
          rintro _ _ ⟨rfl, rfl⟩
          refine seg 2 [.co [1, 1, 1, 1, 1, 1, 0, 1], .co [1, 1, 1, 1, 1, 1, 1]] [(2, .pointer (some (⟨g6, 0, none⟩))), (3, .pointer (some (⟨g7, 0, none⟩))), (4, .pointer (some (⟨g8, 0, none⟩))), (5, .pointer (some (⟨g9, 0, none⟩))), (6, .int .i64 x.N), (7, .int .i64 a), (62, .bool (!(withinB m a x.N)))] (by kernel_rfl) ?_
          rcases bsplit (withinB m a x.N) with hb19 | hb19
          · rw [hb19]
            have h19 := within_of hb19
            refine seg 8 [.op [1, 1, 1, 1, 1, 1, 1, 0] 4, .co [1, 1, 1, 1, 1, 1, 1, 1]] [(2, .pointer (some (⟨g6, 0, none⟩))), (3, .pointer (some (⟨g7, 0, none⟩))), (4, .pointer (some (⟨g8, 0, none⟩))), (5, .pointer (some (⟨g9, 0, none⟩))), (6, .int .i64 x.N), (7, .int .i64 a), (68, .int .i64 (IntKind.i64.wrap (a + x.N))), (69, .pointer (some (⟨g6, 1, none⟩)))] (by kernel_rfl) ?_
            rw [show IntKind.i64.wrap (a + x.N) = (a + x.N) from w64 (by omega)]
            refine st (stR none 3 g6 1 (.int .i64 (a + x.N)) #[.slice A m c, .int .i64 a, .int .i64 e0] 66 (by kernel_rfl) (by kernel_rfl) rfl hg6 (by simp) ?_)
            intro w20 hx20 hg20 hz20
            replace h := h.kp hx20 (fun k (hk : k = g6) => by omega)
            replace hx : TAct.Ok _ _ _ x := Dat.kp (a := x) hx hx20 (fun k (hk : k = g6) => by omega)
            replace hg7 := hx20.blk hg7 (fun e => by have e : g7 = g6 := e; omega)
            replace hg8 := hx20.blk hg8 (fun e => by have e : g8 = g6 := e; omega)
            replace hg9 := hx20.blk hg9 (fun e => by have e : g9 = g6 := e; omega)
            replace hF := hF.step hx20 (fun k hk hlt => by have hk : k = g6 := hk; omega)
            replace hg20 : w20.heap[g6]? = some (.cells #[.slice A m c, .int .i64 (a + x.N), .int .i64 e0] 66 (0, 0)) := hg20
            refine seg 5 [.op [1, 1, 1, 1, 1, 1, 1, 1, 0, 0] 1, .co [1, 1, 1, 1, 1, 1, 1, 1, 0, 1], .co [1, 1, 1, 1, 1, 1, 1, 1, 1]] [(2, .pointer (some (⟨g6, 0, none⟩))), (4, .pointer (some (⟨g8, 0, none⟩))), (5, .pointer (some (⟨g9, 0, none⟩))), (6, .int .i64 x.N), (7, .int .i64 a), (70, .pointer (some (⟨g7, 0, none⟩)))] (by kernel_rfl) ?_
            refine st (ldR (some 71) 3 (⟨g7, 0, none⟩) (.int .i64 x.Do) (by kernel_rfl) (by kernel_rfl) (blk_cell hg7 rfl) ?_)
            refine seg 2 [.co [1, 1, 1, 1, 1, 1, 1, 1, 0, 1], .co [1, 1, 1, 1, 1, 1, 1, 1, 1]] [(2, .pointer (some (⟨g6, 0, none⟩))), (4, .pointer (some (⟨g8, 0, none⟩))), (5, .pointer (some (⟨g9, 0, none⟩))), (6, .int .i64 x.N), (7, .int .i64 a), (72, .bool (x.Do == 0))] (by kernel_rfl) ?_
            rw [show (x.Do == 0) = true from hb13]
            refine seg 2 [.co [1, 1, 1, 1, 1, 1, 1, 1, 0, 1, 0, 0], .co [1, 1, 1, 1, 1, 1, 1, 1, 0, 1, 0, 1], .co [1, 1, 1, 1, 1, 1, 1, 1, 1]] [(2, .pointer (some (⟨g6, 0, none⟩))), (4, .pointer (some (⟨g8, 0, none⟩))), (5, .pointer (some (⟨g9, 0, none⟩))), (6, .int .i64 x.N), (7, .int .i64 a)] (by kernel_rfl) ?_
            refine drawT (fun k => k = g8 ∨ k = g9) (by kernel_rfl) (by kernel_rfl) ?_
            intro w21 hx21 hz21
            have h_21 := h
            have hg20_21 := hg20
            have hg8_21 := hg8
            have hg9_21 := hg9
            have hx_21 := hx
            replace h_21 := h_21.ex hx21
            replace hx_21 : TAct.Ok _ _ _ x := Dat.kp (a := x) hx_21 hx21 (fun _ e => e.elim)
            replace hg20_21 := hx21.blk hg20_21 (fun e => e)
            replace hg8_21 := hx21.blk hg8_21 (fun e => e)
            replace hg9_21 := hx21.blk hg9_21 (fun e => e)
            replace hF := hF.ex hx21
            have hS21 := Kp.refl (fun k => k = g8 ∨ k = g9) w21
            refine segD [1, 3, 4] [1, 3, 4] [(2, .pointer (some (⟨g6, 0, none⟩))), (4, .pointer (some (⟨g8, 0, none⟩))), (5, .pointer (some (⟨g9, 0, none⟩))), (74, .pointer (some (⟨g6, 0, none⟩))), (76, .int .i64 a), (77, .int .i64 x.N)] (by kernel_rfl) ?_
            refine takeD (i := 0) (d := (some 73)) (s := vS (Instr.loadAt 66 (.pointer (some (⟨g6, 0, none⟩))))) (v := .agg #[.slice A m c, .int .i64 (a + x.N), .int .i64 e0]) (by kernel_rfl) (by kernel_rfl) (fun w' hw' => aggRun _ _ [.slice A m c, .int .i64 (a + x.N), .int .i64 e0] (by kernel_rfl) (fun j v hj => hw'.cell (blk_cells (vs := [.slice A m c, .int .i64 (a + x.N), .int .i64 e0]) hg20_21 (by rfl) j v hj) (by (try simp only [add_block]); exact (fun e => by have e : g6 = g8 ∨ g6 = g9 := e; omega)))) ?_
            refine stD (i := 2) (by kernel_rfl) hS21 (ldR (some 75) 22 (⟨g6, 0, none⟩) (.slice A m c) (by kernel_rfl) (by kernel_rfl) (blk_cell hg20_21 rfl) ?_)
            have hll22 : (l).length = m := (by first | rfl | omega | (simp; omega))
            refine stD (i := 5) (by kernel_rfl) hS21 (callR (some 78) 55 #[.slice A m c, .int .i64 a, .int .i64 x.N] Try.call55 (rload_c w21 A m c h_21 hll22 (by omega) a x.N (by omega) (by omega) (by omega) (by omega)) (by kernel_rfl) ?_)
            rintro _ _ ⟨rfl, rfl⟩
            have hle22 := le_take_lt8 (l.drop (a).toNat) (x.N).toNat (by omega)
            refine segD [6] [1, 3, 4, 0, 2, 5, 6] [(4, .pointer (some (⟨g8, 0, none⟩))), (5, .pointer (some (⟨g9, 0, none⟩))), (73, .agg #[.slice A m c, .int .i64 (a + x.N), .int .i64 e0]), (79, .agg #[.int .u64 ((le ((l.drop (a).toNat).take (x.N).toNat) : Nat) : Int), .slice none 0 0])] (by kernel_rfl) ?_
            refine stD (i := 7) (by kernel_rfl) hS21 (stAggR none 66 g8 0 [.slice A m c, .int .i64 (a + x.N), .int .i64 e0] #[.slice none 0 0, .int .i64 0, .int .i64 0] #[.slice A m c, .int .i64 (a + x.N), .int .i64 e0] 66 (by kernel_rfl) (by kernel_rfl) (by rfl) hg8_21 (by simp) (by rfl) ?_)
            intro w23 hx23 hg23 hz23
            have h_23 := h_21
            have hg8_23 := hg8_21
            have hg9_23 := hg9_21
            have hx_23 := hx_21
            have hS21_23 := hS21
            replace h_23 := h_23.kp hx23 (fun k (hk : k = g8) => by omega)
            replace hx_23 : TAct.Ok _ _ _ x := Dat.kp (a := x) hx_23 hx23 (fun k (hk : k = g8) => by omega)
            replace hg9_23 := hx23.blk hg9_23 (fun e => by have e : g9 = g8 := e; omega)
            replace hS21_23 := hS21_23.step hx23 (fun k hk hlt => by have hk : k = g8 := hk; first | omega | (show False; omega))
            replace hF := hF.step hx23 (fun k hk hlt => by have hk : k = g8 := hk; omega)
            refine stD (i := 8) (by kernel_rfl) hS21_23 (stAggR none 68 g9 0 [.int .u64 ((le ((l.drop (a).toNat).take (x.N).toNat) : Nat) : Int), .slice none 0 0] #[.int .u64 0, .slice none 0 0] #[.int .u64 ((le ((l.drop (a).toNat).take (x.N).toNat) : Nat) : Int), .slice none 0 0] 68 (by kernel_rfl) (by kernel_rfl) (by rfl) hg9_23 (by simp) (by rfl) ?_)
            intro w24 hx24 hg24 hz24
            have h_24 := h_23
            have hg23_24 := hg23
            have hg9_24 := hg9_23
            have hx_24 := hx_23
            have hS21_24 := hS21_23
            replace h_24 := h_24.kp hx24 (fun k (hk : k = g9) => by omega)
            replace hx_24 : TAct.Ok _ _ _ x := Dat.kp (a := x) hx_24 hx24 (fun k (hk : k = g9) => by omega)
            replace hg23_24 := hx24.blk hg23_24 (fun e => by have e : g8 = g9 := e; omega)
            replace hS21_24 := hS21_24.step hx24 (fun k hk hlt => by have hk : k = g9 := hk; first | omega | (show False; omega))
            replace hF := hF.step hx24 (fun k hk hlt => by have hk : k = g9 := hk; omega)
            refine endD (by kernel_rfl) hS21_24 ?_
            refine retC [.agg #[.slice A m c, .int .i64 (a + x.N), .int .i64 e0], .agg #[.int .u64 ((le ((l.drop (a).toNat).take (x.N).toNat) : Nat) : Int), .slice none 0 0]] (by kernel_rfl) ⟨⟨_, rfl, ldv_agg 66 (⟨g8, 0, none⟩) [.slice A m c, .int .i64 (a + x.N), .int .i64 e0] (by kernel_rfl) (blk_cells hg23_24 (by rfl))⟩, ⟨_, rfl, ldv_agg 68 (⟨g9, 0, none⟩) [.int .u64 ((le ((l.drop (a).toNat).take (x.N).toNat) : Nat) : Int), .slice none 0 0] (by kernel_rfl) (blk_cells hg24 (by rfl))⟩, trivial⟩ ?_
            have ee : rdE x.Do x.N l a e0 = 0 := by simp [rdE, takeE, textE, numW, hml, h10, h13, hb14, h15, hb19]
            rw [ee]
            obtain rfl : e0 = 0 := h10
            have ea : rdA x.Do x.N l a 0 = a + x.N := by simp [rdA, takeA, numW, h13, hb14]
            have ev : rdV x.Do x.N l a 0 = le ((l.drop a.toNat).take x.N.toNat) := by simp [rdV, takeL, numW, h13, hb14]
            have el : rdL x.Do x.N l a 0 = [] := by simp [rdL, h13]
            rw [ea, ev, el]
            exact ⟨_, rfl, none, 0, rfl, hF, Cs.nil _ _ _ _, Nat.le_refl _⟩
          · rw [hb19]
            refine seg 4 [.op [1, 1, 1, 1, 1, 1, 0, 1, 0, 0] 1, .co [1, 1, 1, 1, 1, 1, 0, 1, 0, 1], .co [1, 1, 1, 1, 1, 1, 1]] [(2, .pointer (some (⟨g6, 0, none⟩))), (4, .pointer (some (⟨g8, 0, none⟩))), (5, .pointer (some (⟨g9, 0, none⟩))), (63, .pointer (some (⟨g6, 2, none⟩)))] (by kernel_rfl) ?_
            refine st (stR none 3 g6 2 (.int .i64 6) #[.slice A m c, .int .i64 a, .int .i64 e0] 66 (by kernel_rfl) (by kernel_rfl) rfl hg6 (by simp) ?_)
            intro w25 hx25 hg25 hz25
            replace h := h.kp hx25 (fun k (hk : k = g6) => by omega)
            replace hg8 := hx25.blk hg8 (fun e => by have e : g8 = g6 := e; omega)
            replace hg9 := hx25.blk hg9 (fun e => by have e : g9 = g6 := e; omega)
            replace hF := hF.step hx25 (fun k hk hlt => by have hk : k = g6 := hk; omega)
            replace hg25 : w25.heap[g6]? = some (.cells #[.slice A m c, .int .i64 a, .int .i64 6] 66 (0, 0)) := hg25
            refine seg 3 [.op [1, 1, 1, 1, 1, 1, 0, 1, 0, 1, 0] 0, .co [1, 1, 1, 1, 1, 1, 0, 1, 0, 1, 1], .co [1, 1, 1, 1, 1, 1, 1]] [(2, .pointer (some (⟨g6, 0, none⟩))), (4, .pointer (some (⟨g8, 0, none⟩))), (5, .pointer (some (⟨g9, 0, none⟩)))] (by kernel_rfl) ?_
            refine st (ldAggR (some 64) 66 (⟨g6, 0, none⟩) [.slice A m c, .int .i64 a, .int .i64 6] (by kernel_rfl) (by kernel_rfl) (blk_cells hg25 (by kernel_rfl)) ?_)
            refine seg 1 [.op [1, 1, 1, 1, 1, 1, 0, 1, 0, 1, 0] 2, .co [1, 1, 1, 1, 1, 1, 0, 1, 0, 1, 1], .co [1, 1, 1, 1, 1, 1, 1]] [(4, .pointer (some (⟨g8, 0, none⟩))), (5, .pointer (some (⟨g9, 0, none⟩))), (64, .agg #[.slice A m c, .int .i64 a, .int .i64 6]), (65, .agg #[.int .u64 0, .slice none 0 0])] (by kernel_rfl) ?_
            refine st (stAggR none 66 g8 0 [.slice A m c, .int .i64 a, .int .i64 6] #[.slice none 0 0, .int .i64 0, .int .i64 0] #[.slice A m c, .int .i64 a, .int .i64 6] 66 (by kernel_rfl) (by kernel_rfl) (by rfl) hg8 (by simp) (by rfl) ?_)
            intro w26 hx26 hg26 hz26
            replace h := h.kp hx26 (fun k (hk : k = g8) => by omega)
            replace hg9 := hx26.blk hg9 (fun e => by have e : g9 = g8 := e; omega)
            replace hF := hF.step hx26 (fun k hk hlt => by have hk : k = g8 := hk; omega)
            refine st (stAggR none 68 g9 0 [.int .u64 0, .slice none 0 0] #[.int .u64 0, .slice none 0 0] #[.int .u64 0, .slice none 0 0] 68 (by kernel_rfl) (by kernel_rfl) (by rfl) hg9 (by simp) (by rfl) ?_)
            intro w27 hx27 hg27 hz27
            replace h := h.kp hx27 (fun k (hk : k = g9) => by omega)
            replace hg26 := hx27.blk hg26 (fun e => by have e : g8 = g9 := e; omega)
            replace hF := hF.step hx27 (fun k hk hlt => by have hk : k = g9 := hk; omega)
            refine seg 1 [.co [1, 1, 1, 1, 1, 1, 0, 1, 0, 1, 1], .co [1, 1, 1, 1, 1, 1, 1]] [(4, .pointer (some (⟨g8, 0, none⟩))), (5, .pointer (some (⟨g9, 0, none⟩)))] (by kernel_rfl) ?_
            refine retC [.agg #[.slice A m c, .int .i64 a, .int .i64 6], .agg #[.int .u64 0, .slice none 0 0]] (by kernel_rfl) ⟨⟨_, rfl, ldv_agg 66 (⟨g8, 0, none⟩) [.slice A m c, .int .i64 a, .int .i64 6] (by kernel_rfl) (blk_cells hg26 (by rfl))⟩, ⟨_, rfl, ldv_agg 68 (⟨g9, 0, none⟩) [.int .u64 0, .slice none 0 0] (by kernel_rfl) (blk_cells hg27 (by rfl))⟩, trivial⟩ ?_
            have ee : rdE x.Do x.N l a e0 = 6 := by simp [rdE, takeE, textE, numW, hml, h10, h13, hb14, h15, hb19]
            rw [ee]
            have ez : (6 : Int) ≠ 0 := by first | assumption | decide
            have ea : rdA x.Do x.N l a 6 = a := by simp [rdA, takeA, textA, ez]
            have ev : rdV x.Do x.N l a 6 = 0 := by simp [rdV, takeL, ez, le]
            have el : rdL x.Do x.N l a 6 = [] := by simp [rdL, takeL, textL, ez]
            rw [ea, ev, el]
            exact ⟨_, rfl, none, 0, rfl, hF, Cs.nil _ _ _ _, Nat.le_refl _⟩
      · rw [hb14]
        refine seg 8 [.op [1, 1, 1, 1, 0, 1, 0, 0] 1, .co [1, 1, 1, 1, 0, 1, 0, 1], .co [1, 1, 1, 1, 1]] [(2, .pointer (some (⟨g6, 0, none⟩))), (4, .pointer (some (⟨g8, 0, none⟩))), (5, .pointer (some (⟨g9, 0, none⟩))), (29, .pointer (some (⟨g6, 2, none⟩)))] (by kernel_rfl) ?_
        refine st (stR none 3 g6 2 (.int .i64 1) #[.slice A m c, .int .i64 a, .int .i64 e0] 66 (by kernel_rfl) (by kernel_rfl) rfl hg6 (by simp) ?_)
        intro w28 hx28 hg28 hz28
        replace h := h.kp hx28 (fun k (hk : k = g6) => by omega)
        replace hg8 := hx28.blk hg8 (fun e => by have e : g8 = g6 := e; omega)
        replace hg9 := hx28.blk hg9 (fun e => by have e : g9 = g6 := e; omega)
        replace hF := hF.step hx28 (fun k hk hlt => by have hk : k = g6 := hk; omega)
        replace hg28 : w28.heap[g6]? = some (.cells #[.slice A m c, .int .i64 a, .int .i64 1] 66 (0, 0)) := hg28
        refine seg 3 [.op [1, 1, 1, 1, 0, 1, 0, 1, 0] 0, .co [1, 1, 1, 1, 0, 1, 0, 1, 1], .co [1, 1, 1, 1, 1]] [(2, .pointer (some (⟨g6, 0, none⟩))), (4, .pointer (some (⟨g8, 0, none⟩))), (5, .pointer (some (⟨g9, 0, none⟩)))] (by kernel_rfl) ?_
        refine st (ldAggR (some 30) 66 (⟨g6, 0, none⟩) [.slice A m c, .int .i64 a, .int .i64 1] (by kernel_rfl) (by kernel_rfl) (blk_cells hg28 (by kernel_rfl)) ?_)
        refine seg 1 [.op [1, 1, 1, 1, 0, 1, 0, 1, 0] 2, .co [1, 1, 1, 1, 0, 1, 0, 1, 1], .co [1, 1, 1, 1, 1]] [(4, .pointer (some (⟨g8, 0, none⟩))), (5, .pointer (some (⟨g9, 0, none⟩))), (30, .agg #[.slice A m c, .int .i64 a, .int .i64 1]), (31, .agg #[.int .u64 0, .slice none 0 0])] (by kernel_rfl) ?_
        refine st (stAggR none 66 g8 0 [.slice A m c, .int .i64 a, .int .i64 1] #[.slice none 0 0, .int .i64 0, .int .i64 0] #[.slice A m c, .int .i64 a, .int .i64 1] 66 (by kernel_rfl) (by kernel_rfl) (by rfl) hg8 (by simp) (by rfl) ?_)
        intro w29 hx29 hg29 hz29
        replace h := h.kp hx29 (fun k (hk : k = g8) => by omega)
        replace hg9 := hx29.blk hg9 (fun e => by have e : g9 = g8 := e; omega)
        replace hF := hF.step hx29 (fun k hk hlt => by have hk : k = g8 := hk; omega)
        refine st (stAggR none 68 g9 0 [.int .u64 0, .slice none 0 0] #[.int .u64 0, .slice none 0 0] #[.int .u64 0, .slice none 0 0] 68 (by kernel_rfl) (by kernel_rfl) (by rfl) hg9 (by simp) (by rfl) ?_)
        intro w30 hx30 hg30 hz30
        replace h := h.kp hx30 (fun k (hk : k = g9) => by omega)
        replace hg29 := hx30.blk hg29 (fun e => by have e : g8 = g9 := e; omega)
        replace hF := hF.step hx30 (fun k hk hlt => by have hk : k = g9 := hk; omega)
        refine seg 1 [.co [1, 1, 1, 1, 0, 1, 0, 1, 1], .co [1, 1, 1, 1, 1]] [(4, .pointer (some (⟨g8, 0, none⟩))), (5, .pointer (some (⟨g9, 0, none⟩)))] (by kernel_rfl) ?_
        refine retC [.agg #[.slice A m c, .int .i64 a, .int .i64 1], .agg #[.int .u64 0, .slice none 0 0]] (by kernel_rfl) ⟨⟨_, rfl, ldv_agg 66 (⟨g8, 0, none⟩) [.slice A m c, .int .i64 a, .int .i64 1] (by kernel_rfl) (blk_cells hg29 (by rfl))⟩, ⟨_, rfl, ldv_agg 68 (⟨g9, 0, none⟩) [.int .u64 0, .slice none 0 0] (by kernel_rfl) (blk_cells hg30 (by rfl))⟩, trivial⟩ ?_
        have ee : rdE x.Do x.N l a e0 = 1 := by simp [rdE, takeE, textE, numW, hml, h10, h13, hb14]
        rw [ee]
        have ez : (1 : Int) ≠ 0 := by first | assumption | decide
        have ea : rdA x.Do x.N l a 1 = a := by simp [rdA, takeA, textA, ez]
        have ev : rdV x.Do x.N l a 1 = 0 := by simp [rdV, takeL, ez, le]
        have el : rdL x.Do x.N l a 1 = [] := by simp [rdL, takeL, textL, ez]
        rw [ea, ev, el]
        exact ⟨_, rfl, none, 0, rfl, hF, Cs.nil _ _ _ _, Nat.le_refl _⟩
    · rw [hb13]
      have h13 : x.Do ≠ 0 := by simpa using hb13
      refine seg 9 [.co [1, 1, 1, 1, 0, 1], .co [1, 1, 1, 1, 1]] [(2, .pointer (some (⟨g6, 0, none⟩))), (3, .pointer (some (⟨g7, 0, none⟩))), (4, .pointer (some (⟨g8, 0, none⟩))), (5, .pointer (some (⟨g9, 0, none⟩))), (6, .int .i64 x.N), (7, .int .i64 a), (28, .bool (decide (x.N < 0)))] (by kernel_rfl) ?_
      rcases bsplit (decide (x.N < 0)) with hb31 | hb31
      · rw [hb31]
        have h31 := of_decide_eq_true hb31
        refine seg 4 [.op [1, 1, 1, 1, 0, 1, 0, 0] 1, .co [1, 1, 1, 1, 0, 1, 0, 1], .co [1, 1, 1, 1, 1]] [(2, .pointer (some (⟨g6, 0, none⟩))), (4, .pointer (some (⟨g8, 0, none⟩))), (5, .pointer (some (⟨g9, 0, none⟩))), (29, .pointer (some (⟨g6, 2, none⟩)))] (by kernel_rfl) ?_
        refine st (stR none 3 g6 2 (.int .i64 1) #[.slice A m c, .int .i64 a, .int .i64 e0] 66 (by kernel_rfl) (by kernel_rfl) rfl hg6 (by simp) ?_)
        intro w32 hx32 hg32 hz32
        replace h := h.kp hx32 (fun k (hk : k = g6) => by omega)
        replace hg8 := hx32.blk hg8 (fun e => by have e : g8 = g6 := e; omega)
        replace hg9 := hx32.blk hg9 (fun e => by have e : g9 = g6 := e; omega)
        replace hF := hF.step hx32 (fun k hk hlt => by have hk : k = g6 := hk; omega)
        replace hg32 : w32.heap[g6]? = some (.cells #[.slice A m c, .int .i64 a, .int .i64 1] 66 (0, 0)) := hg32
        refine seg 3 [.op [1, 1, 1, 1, 0, 1, 0, 1, 0] 0, .co [1, 1, 1, 1, 0, 1, 0, 1, 1], .co [1, 1, 1, 1, 1]] [(2, .pointer (some (⟨g6, 0, none⟩))), (4, .pointer (some (⟨g8, 0, none⟩))), (5, .pointer (some (⟨g9, 0, none⟩)))] (by kernel_rfl) ?_
        refine st (ldAggR (some 30) 66 (⟨g6, 0, none⟩) [.slice A m c, .int .i64 a, .int .i64 1] (by kernel_rfl) (by kernel_rfl) (blk_cells hg32 (by kernel_rfl)) ?_)
        refine seg 1 [.op [1, 1, 1, 1, 0, 1, 0, 1, 0] 2, .co [1, 1, 1, 1, 0, 1, 0, 1, 1], .co [1, 1, 1, 1, 1]] [(4, .pointer (some (⟨g8, 0, none⟩))), (5, .pointer (some (⟨g9, 0, none⟩))), (30, .agg #[.slice A m c, .int .i64 a, .int .i64 1]), (31, .agg #[.int .u64 0, .slice none 0 0])] (by kernel_rfl) ?_
        refine st (stAggR none 66 g8 0 [.slice A m c, .int .i64 a, .int .i64 1] #[.slice none 0 0, .int .i64 0, .int .i64 0] #[.slice A m c, .int .i64 a, .int .i64 1] 66 (by kernel_rfl) (by kernel_rfl) (by rfl) hg8 (by simp) (by rfl) ?_)
        intro w33 hx33 hg33 hz33
        replace h := h.kp hx33 (fun k (hk : k = g8) => by omega)
        replace hg9 := hx33.blk hg9 (fun e => by have e : g9 = g8 := e; omega)
        replace hF := hF.step hx33 (fun k hk hlt => by have hk : k = g8 := hk; omega)
        refine st (stAggR none 68 g9 0 [.int .u64 0, .slice none 0 0] #[.int .u64 0, .slice none 0 0] #[.int .u64 0, .slice none 0 0] 68 (by kernel_rfl) (by kernel_rfl) (by rfl) hg9 (by simp) (by rfl) ?_)
        intro w34 hx34 hg34 hz34
        replace h := h.kp hx34 (fun k (hk : k = g9) => by omega)
        replace hg33 := hx34.blk hg33 (fun e => by have e : g8 = g9 := e; omega)
        replace hF := hF.step hx34 (fun k hk hlt => by have hk : k = g9 := hk; omega)
        refine seg 1 [.co [1, 1, 1, 1, 0, 1, 0, 1, 1], .co [1, 1, 1, 1, 1]] [(4, .pointer (some (⟨g8, 0, none⟩))), (5, .pointer (some (⟨g9, 0, none⟩)))] (by kernel_rfl) ?_
        refine retC [.agg #[.slice A m c, .int .i64 a, .int .i64 1], .agg #[.int .u64 0, .slice none 0 0]] (by kernel_rfl) ⟨⟨_, rfl, ldv_agg 66 (⟨g8, 0, none⟩) [.slice A m c, .int .i64 a, .int .i64 1] (by kernel_rfl) (blk_cells hg33 (by rfl))⟩, ⟨_, rfl, ldv_agg 68 (⟨g9, 0, none⟩) [.int .u64 0, .slice none 0 0] (by kernel_rfl) (blk_cells hg34 (by rfl))⟩, trivial⟩ ?_
        have ee : rdE x.Do x.N l a e0 = 1 := by simp [rdE, takeE, textE, numW, hml, h10, h13, h31]
        rw [ee]
        have ez : (1 : Int) ≠ 0 := by first | assumption | decide
        have ea : rdA x.Do x.N l a 1 = a := by simp [rdA, takeA, textA, ez]
        have ev : rdV x.Do x.N l a 1 = 0 := by simp [rdV, takeL, ez, le]
        have el : rdL x.Do x.N l a 1 = [] := by simp [rdL, takeL, textL, ez]
        rw [ea, ev, el]
        exact ⟨_, rfl, none, 0, rfl, hF, Cs.nil _ _ _ _, Nat.le_refl _⟩
      · rw [hb31]
        have h31 := of_decide_eq_false hb31
        refine seg 6 [.op [1, 1, 1, 1, 1, 0, 0] 1, .co [1, 1, 1, 1, 1, 0, 1], .co [1, 1, 1, 1, 1, 1]] [(2, .pointer (some (⟨g6, 0, none⟩))), (3, .pointer (some (⟨g7, 0, none⟩))), (4, .pointer (some (⟨g8, 0, none⟩))), (5, .pointer (some (⟨g9, 0, none⟩))), (6, .int .i64 x.N), (7, .int .i64 a), (32, .pointer (some (⟨g7, 0, none⟩)))] (by kernel_rfl) ?_
        refine st (ldR (some 33) 3 (⟨g7, 0, none⟩) (.int .i64 x.Do) (by kernel_rfl) (by kernel_rfl) (blk_cell hg7 rfl) ?_)
        refine seg 2 [.co [1, 1, 1, 1, 1, 0, 1], .co [1, 1, 1, 1, 1, 1]] [(2, .pointer (some (⟨g6, 0, none⟩))), (3, .pointer (some (⟨g7, 0, none⟩))), (4, .pointer (some (⟨g8, 0, none⟩))), (5, .pointer (some (⟨g9, 0, none⟩))), (6, .int .i64 x.N), (7, .int .i64 a), (34, .bool (x.Do == 2))] (by kernel_rfl) ?_
        rcases bsplit (x.Do == 2) with hb35 | hb35
        · rw [hb35]
          have h35 : x.Do = 2 := by simpa using hb35
          refine seg 5 [.op [1, 1, 1, 1, 1, 0, 1, 0, 0, 0] 1, .co [1, 1, 1, 1, 1, 0, 1, 0, 0, 1], .co [1, 1, 1, 1, 1, 0, 1, 0, 1], .co [1, 1, 1, 1, 1, 1]] [(2, .pointer (some (⟨g6, 0, none⟩))), (3, .pointer (some (⟨g7, 0, none⟩))), (4, .pointer (some (⟨g8, 0, none⟩))), (5, .pointer (some (⟨g9, 0, none⟩))), (7, .int .i64 a), (35, .pointer (some (⟨g6, 0, none⟩)))] (by kernel_rfl) ?_
          refine st (ldR (some 36) 22 (⟨g6, 0, none⟩) (.slice A m c) (by kernel_rfl) (by kernel_rfl) (blk_cell hg6 rfl) ?_)
          refine seg 1 [.op [1, 1, 1, 1, 1, 0, 1, 0, 0, 0] 3, .co [1, 1, 1, 1, 1, 0, 1, 0, 0, 1], .co [1, 1, 1, 1, 1, 0, 1, 0, 1], .co [1, 1, 1, 1, 1, 1]] [(2, .pointer (some (⟨g6, 0, none⟩))), (3, .pointer (some (⟨g7, 0, none⟩))), (4, .pointer (some (⟨g8, 0, none⟩))), (5, .pointer (some (⟨g9, 0, none⟩))), (7, .int .i64 a), (36, .slice A m c), (37, .int .i64 a)] (by kernel_rfl) ?_
          refine st (callR (some 38) 26 #[.slice A m c, .int .i64 a, .int .i64 2] Try.call26 (rin_c w9 A m c a 2 (by omega) (by omega) (by omega)) (by kernel_rfl) ?_)
          rintro _ _ ⟨rfl, rfl⟩
          refine seg 2 [.co [1, 1, 1, 1, 1, 0, 1, 0, 0, 1], .co [1, 1, 1, 1, 1, 0, 1, 0, 1], .co [1, 1, 1, 1, 1, 1]] [(2, .pointer (some (⟨g6, 0, none⟩))), (3, .pointer (some (⟨g7, 0, none⟩))), (4, .pointer (some (⟨g8, 0, none⟩))), (5, .pointer (some (⟨g9, 0, none⟩))), (7, .int .i64 a), (39, .bool (!(withinB m a 2)))] (by kernel_rfl) ?_
          rcases bsplit (withinB m a 2) with hb36 | hb36
          · rw [hb36]
            have h36 := within_of hb36
            refine seg 5 [.op [1, 1, 1, 1, 1, 0, 1, 0, 1, 0] 1, .co [1, 1, 1, 1, 1, 0, 1, 0, 1, 1], .co [1, 1, 1, 1, 1, 1]] [(2, .pointer (some (⟨g6, 0, none⟩))), (3, .pointer (some (⟨g7, 0, none⟩))), (4, .pointer (some (⟨g8, 0, none⟩))), (5, .pointer (some (⟨g9, 0, none⟩))), (7, .int .i64 a), (43, .pointer (some (⟨g6, 0, none⟩)))] (by kernel_rfl) ?_
            refine st (ldR (some 44) 22 (⟨g6, 0, none⟩) (.slice A m c) (by kernel_rfl) (by kernel_rfl) (blk_cell hg6 rfl) ?_)
            refine seg 1 [.op [1, 1, 1, 1, 1, 0, 1, 0, 1, 0] 3, .co [1, 1, 1, 1, 1, 0, 1, 0, 1, 1], .co [1, 1, 1, 1, 1, 1]] [(2, .pointer (some (⟨g6, 0, none⟩))), (3, .pointer (some (⟨g7, 0, none⟩))), (4, .pointer (some (⟨g8, 0, none⟩))), (5, .pointer (some (⟨g9, 0, none⟩))), (7, .int .i64 a), (44, .slice A m c), (45, .int .i64 a)] (by kernel_rfl) ?_
            have hll37 : (l).length = m := (by first | rfl | omega | (simp; omega))
            refine st (callR (some 46) 55 #[.slice A m c, .int .i64 a, .int .i64 2] Try.call55 (rload_c w9 A m c h hll37 (by omega) a 2 (by omega) (by omega) (by omega) (by omega)) (by kernel_rfl) ?_)
            rintro _ _ ⟨rfl, rfl⟩
            have hle37 : le ((l.drop (a).toNat).take 2) < 65536 := le_take_lt _ 2
            refine seg 8 [.op [1, 1, 1, 1, 1, 0, 1, 0, 1, 1, 0, 0] 2, .co [1, 1, 1, 1, 1, 0, 1, 0, 1, 1, 0, 1], .co [1, 1, 1, 1, 1, 0, 1, 0, 1, 1, 1], .co [1, 1, 1, 1, 1, 1]] [(2, .pointer (some (⟨g6, 0, none⟩))), (3, .pointer (some (⟨g7, 0, none⟩))), (4, .pointer (some (⟨g8, 0, none⟩))), (5, .pointer (some (⟨g9, 0, none⟩))), (6, .int .i64 (IntKind.i64.wrap ((le ((l.drop (a).toNat).take 2) : Nat) : Int))), (7, .int .i64 a), (48, .int .i64 (IntKind.i64.wrap ((le ((l.drop (a).toNat).take 2) : Nat) : Int))), (49, .pointer (some (⟨g7, 1, none⟩)))] (by kernel_rfl) ?_
            rw [show IntKind.i64.wrap ((le ((l.drop (a).toNat).take 2) : Nat) : Int) = ((le ((l.drop (a).toNat).take 2) : Nat) : Int) from w64 (by omega)]
            refine st (ldR (some 50) 3 (⟨g7, 1, none⟩) (.int .i64 x.N) (by kernel_rfl) (by kernel_rfl) (blk_cell hg7 rfl) ?_)
            refine seg 2 [.co [1, 1, 1, 1, 1, 0, 1, 0, 1, 1, 0, 1], .co [1, 1, 1, 1, 1, 0, 1, 0, 1, 1, 1], .co [1, 1, 1, 1, 1, 1]] [(2, .pointer (some (⟨g6, 0, none⟩))), (3, .pointer (some (⟨g7, 0, none⟩))), (4, .pointer (some (⟨g8, 0, none⟩))), (5, .pointer (some (⟨g9, 0, none⟩))), (6, .int .i64 ((le ((l.drop (a).toNat).take 2) : Nat) : Int)), (7, .int .i64 a), (51, .bool (decide (((le ((l.drop (a).toNat).take 2) : Nat) : Int) > x.N)))] (by kernel_rfl) ?_
            rcases bsplit (decide (((le ((l.drop (a).toNat).take 2) : Nat) : Int) > x.N)) with hb38 | hb38
            · rw [hb38]
              have h38 := of_decide_eq_true hb38
              refine seg 4 [.op [1, 1, 1, 1, 1, 0, 1, 0, 1, 1, 0, 1, 0, 0] 1, .co [1, 1, 1, 1, 1, 0, 1, 0, 1, 1, 0, 1, 0, 1], .co [1, 1, 1, 1, 1, 0, 1, 0, 1, 1, 1], .co [1, 1, 1, 1, 1, 1]] [(2, .pointer (some (⟨g6, 0, none⟩))), (4, .pointer (some (⟨g8, 0, none⟩))), (5, .pointer (some (⟨g9, 0, none⟩))), (52, .pointer (some (⟨g6, 2, none⟩)))] (by kernel_rfl) ?_
              refine st (stR none 3 g6 2 (.int .i64 2) #[.slice A m c, .int .i64 a, .int .i64 e0] 66 (by kernel_rfl) (by kernel_rfl) rfl hg6 (by simp) ?_)
              intro w39 hx39 hg39 hz39
              replace h := h.kp hx39 (fun k (hk : k = g6) => by omega)
              replace hg8 := hx39.blk hg8 (fun e => by have e : g8 = g6 := e; omega)
              replace hg9 := hx39.blk hg9 (fun e => by have e : g9 = g6 := e; omega)
              replace hF := hF.step hx39 (fun k hk hlt => by have hk : k = g6 := hk; omega)
              replace hg39 : w39.heap[g6]? = some (.cells #[.slice A m c, .int .i64 a, .int .i64 2] 66 (0, 0)) := hg39
              refine seg 3 [.op [1, 1, 1, 1, 1, 0, 1, 0, 1, 1, 0, 1, 0, 1, 0] 0, .co [1, 1, 1, 1, 1, 0, 1, 0, 1, 1, 0, 1, 0, 1, 1], .co [1, 1, 1, 1, 1, 0, 1, 0, 1, 1, 1], .co [1, 1, 1, 1, 1, 1]] [(2, .pointer (some (⟨g6, 0, none⟩))), (4, .pointer (some (⟨g8, 0, none⟩))), (5, .pointer (some (⟨g9, 0, none⟩)))] (by kernel_rfl) ?_
              refine st (ldAggR (some 53) 66 (⟨g6, 0, none⟩) [.slice A m c, .int .i64 a, .int .i64 2] (by kernel_rfl) (by kernel_rfl) (blk_cells hg39 (by kernel_rfl)) ?_)
              refine seg 1 [.op [1, 1, 1, 1, 1, 0, 1, 0, 1, 1, 0, 1, 0, 1, 0] 2, .co [1, 1, 1, 1, 1, 0, 1, 0, 1, 1, 0, 1, 0, 1, 1], .co [1, 1, 1, 1, 1, 0, 1, 0, 1, 1, 1], .co [1, 1, 1, 1, 1, 1]] [(4, .pointer (some (⟨g8, 0, none⟩))), (5, .pointer (some (⟨g9, 0, none⟩))), (53, .agg #[.slice A m c, .int .i64 a, .int .i64 2]), (54, .agg #[.int .u64 0, .slice none 0 0])] (by kernel_rfl) ?_
              refine st (stAggR none 66 g8 0 [.slice A m c, .int .i64 a, .int .i64 2] #[.slice none 0 0, .int .i64 0, .int .i64 0] #[.slice A m c, .int .i64 a, .int .i64 2] 66 (by kernel_rfl) (by kernel_rfl) (by rfl) hg8 (by simp) (by rfl) ?_)
              intro w40 hx40 hg40 hz40
              replace h := h.kp hx40 (fun k (hk : k = g8) => by omega)
              replace hg9 := hx40.blk hg9 (fun e => by have e : g9 = g8 := e; omega)
              replace hF := hF.step hx40 (fun k hk hlt => by have hk : k = g8 := hk; omega)
              refine st (stAggR none 68 g9 0 [.int .u64 0, .slice none 0 0] #[.int .u64 0, .slice none 0 0] #[.int .u64 0, .slice none 0 0] 68 (by kernel_rfl) (by kernel_rfl) (by rfl) hg9 (by simp) (by rfl) ?_)
              intro w41 hx41 hg41 hz41
              replace h := h.kp hx41 (fun k (hk : k = g9) => by omega)
              replace hg40 := hx41.blk hg40 (fun e => by have e : g8 = g9 := e; omega)
              replace hF := hF.step hx41 (fun k hk hlt => by have hk : k = g9 := hk; omega)
              refine seg 1 [.co [1, 1, 1, 1, 1, 0, 1, 0, 1, 1, 0, 1, 0, 1, 1], .co [1, 1, 1, 1, 1, 0, 1, 0, 1, 1, 1], .co [1, 1, 1, 1, 1, 1]] [(4, .pointer (some (⟨g8, 0, none⟩))), (5, .pointer (some (⟨g9, 0, none⟩)))] (by kernel_rfl) ?_
              refine retC [.agg #[.slice A m c, .int .i64 a, .int .i64 2], .agg #[.int .u64 0, .slice none 0 0]] (by kernel_rfl) ⟨⟨_, rfl, ldv_agg 66 (⟨g8, 0, none⟩) [.slice A m c, .int .i64 a, .int .i64 2] (by kernel_rfl) (blk_cells hg40 (by rfl))⟩, ⟨_, rfl, ldv_agg 68 (⟨g9, 0, none⟩) [.int .u64 0, .slice none 0 0] (by kernel_rfl) (blk_cells hg41 (by rfl))⟩, trivial⟩ ?_
              have ee : rdE x.Do x.N l a e0 = 2 := by simp [rdE, takeE, textE, numW, hml, h10, h13, h31, h35, hb36, h38]
              rw [ee]
              have ez : (2 : Int) ≠ 0 := by first | assumption | decide
              have ea : rdA x.Do x.N l a 2 = a := by simp [rdA, takeA, textA, ez]
              have ev : rdV x.Do x.N l a 2 = 0 := by simp [rdV, takeL, ez, le]
              have el : rdL x.Do x.N l a 2 = [] := by simp [rdL, takeL, textL, ez]
              rw [ea, ev, el]
              exact ⟨_, rfl, none, 0, rfl, hF, Cs.nil _ _ _ _, Nat.le_refl _⟩
            · rw [hb38]
              have h38 := of_decide_eq_false hb38
              refine seg 11 [.op [1, 1, 1, 1, 1, 1, 0, 0] 1, .co [1, 1, 1, 1, 1, 1, 0, 1], .co [1, 1, 1, 1, 1, 1, 1]] [(2, .pointer (some (⟨g6, 0, none⟩))), (3, .pointer (some (⟨g7, 0, none⟩))), (4, .pointer (some (⟨g8, 0, none⟩))), (5, .pointer (some (⟨g9, 0, none⟩))), (6, .int .i64 ((le ((l.drop (a).toNat).take 2) : Nat) : Int)), (7, .int .i64 (IntKind.i64.wrap (a + 2))), (57, .pointer (some (⟨g6, 0, none⟩)))] (by kernel_rfl) ?_
              rw [show IntKind.i64.wrap (a + 2) = (a + 2) from w64 (by omega)]
              refine st (ldR (some 58) 22 (⟨g6, 0, none⟩) (.slice A m c) (by kernel_rfl) (by kernel_rfl) (blk_cell hg6 rfl) ?_)
              refine seg 2 [.op [1, 1, 1, 1, 1, 1, 0, 0] 4, .co [1, 1, 1, 1, 1, 1, 0, 1], .co [1, 1, 1, 1, 1, 1, 1]] [(2, .pointer (some (⟨g6, 0, none⟩))), (3, .pointer (some (⟨g7, 0, none⟩))), (4, .pointer (some (⟨g8, 0, none⟩))), (5, .pointer (some (⟨g9, 0, none⟩))), (6, .int .i64 ((le ((l.drop (a).toNat).take 2) : Nat) : Int)), (7, .int .i64 (a + 2)), (58, .slice A m c), (59, .int .i64 (a + 2)), (60, .int .i64 ((le ((l.drop (a).toNat).take 2) : Nat) : Int))] (by kernel_rfl) ?_
              refine st (callR (some 61) 26 #[.slice A m c, .int .i64 (a + 2), .int .i64 ((le ((l.drop (a).toNat).take 2) : Nat) : Int)] Try.call26 (rin_c w9 A m c (a + 2) ((le ((l.drop (a).toNat).take 2) : Nat) : Int) (by omega) (by omega) (by omega)) (by kernel_rfl) ?_)
              rintro _ _ ⟨rfl, rfl⟩
              refine seg 2 [.co [1, 1, 1, 1, 1, 1, 0, 1], .co [1, 1, 1, 1, 1, 1, 1]] [(2, .pointer (some (⟨g6, 0, none⟩))), (3, .pointer (some (⟨g7, 0, none⟩))), (4, .pointer (some (⟨g8, 0, none⟩))), (5, .pointer (some (⟨g9, 0, none⟩))), (6, .int .i64 ((le ((l.drop (a).toNat).take 2) : Nat) : Int)), (7, .int .i64 (a + 2)), (62, .bool (!(withinB m (a + 2) ((le ((l.drop (a).toNat).take 2) : Nat) : Int))))] (by kernel_rfl) ?_
              rcases bsplit (withinB m (a + 2) ((le ((l.drop (a).toNat).take 2) : Nat) : Int)) with hb42 | hb42
              · rw [hb42]
                have h42 := within_of hb42
                refine seg 8 [.op [1, 1, 1, 1, 1, 1, 1, 0] 4, .co [1, 1, 1, 1, 1, 1, 1, 1]] [(2, .pointer (some (⟨g6, 0, none⟩))), (3, .pointer (some (⟨g7, 0, none⟩))), (4, .pointer (some (⟨g8, 0, none⟩))), (5, .pointer (some (⟨g9, 0, none⟩))), (6, .int .i64 ((le ((l.drop (a).toNat).take 2) : Nat) : Int)), (7, .int .i64 (a + 2)), (68, .int .i64 (IntKind.i64.wrap ((a + 2) + ((le ((l.drop (a).toNat).take 2) : Nat) : Int)))), (69, .pointer (some (⟨g6, 1, none⟩)))] (by kernel_rfl) ?_
                rw [show IntKind.i64.wrap ((a + 2) + ((le ((l.drop (a).toNat).take 2) : Nat) : Int)) = ((a + 2) + ((le ((l.drop (a).toNat).take 2) : Nat) : Int)) from w64 (by omega)]
                refine st (stR none 3 g6 1 (.int .i64 ((a + 2) + ((le ((l.drop (a).toNat).take 2) : Nat) : Int))) #[.slice A m c, .int .i64 a, .int .i64 e0] 66 (by kernel_rfl) (by kernel_rfl) rfl hg6 (by simp) ?_)
                intro w43 hx43 hg43 hz43
                replace h := h.kp hx43 (fun k (hk : k = g6) => by omega)
                replace hx : TAct.Ok _ _ _ x := Dat.kp (a := x) hx hx43 (fun k (hk : k = g6) => by omega)
                replace hg7 := hx43.blk hg7 (fun e => by have e : g7 = g6 := e; omega)
                replace hg8 := hx43.blk hg8 (fun e => by have e : g8 = g6 := e; omega)
                replace hg9 := hx43.blk hg9 (fun e => by have e : g9 = g6 := e; omega)
                replace hF := hF.step hx43 (fun k hk hlt => by have hk : k = g6 := hk; omega)
                replace hg43 : w43.heap[g6]? = some (.cells #[.slice A m c, .int .i64 ((a + 2) + ((le ((l.drop (a).toNat).take 2) : Nat) : Int)), .int .i64 e0] 66 (0, 0)) := hg43
                refine seg 5 [.op [1, 1, 1, 1, 1, 1, 1, 1, 0, 0] 1, .co [1, 1, 1, 1, 1, 1, 1, 1, 0, 1], .co [1, 1, 1, 1, 1, 1, 1, 1, 1]] [(2, .pointer (some (⟨g6, 0, none⟩))), (4, .pointer (some (⟨g8, 0, none⟩))), (5, .pointer (some (⟨g9, 0, none⟩))), (6, .int .i64 ((le ((l.drop (a).toNat).take 2) : Nat) : Int)), (7, .int .i64 (a + 2)), (70, .pointer (some (⟨g7, 0, none⟩)))] (by kernel_rfl) ?_
                refine st (ldR (some 71) 3 (⟨g7, 0, none⟩) (.int .i64 x.Do) (by kernel_rfl) (by kernel_rfl) (blk_cell hg7 rfl) ?_)
                refine seg 2 [.co [1, 1, 1, 1, 1, 1, 1, 1, 0, 1], .co [1, 1, 1, 1, 1, 1, 1, 1, 1]] [(2, .pointer (some (⟨g6, 0, none⟩))), (4, .pointer (some (⟨g8, 0, none⟩))), (5, .pointer (some (⟨g9, 0, none⟩))), (6, .int .i64 ((le ((l.drop (a).toNat).take 2) : Nat) : Int)), (7, .int .i64 (a + 2)), (72, .bool (x.Do == 0))] (by kernel_rfl) ?_
                rw [show (x.Do == 0) = false from hb13]
                refine seg 3 [.co [1, 1, 1, 1, 1, 1, 1, 1, 1, 0], .co [1, 1, 1, 1, 1, 1, 1, 1, 1, 1]] [(2, .pointer (some (⟨g6, 0, none⟩))), (4, .pointer (some (⟨g8, 0, none⟩))), (5, .pointer (some (⟨g9, 0, none⟩))), (6, .int .i64 ((le ((l.drop (a).toNat).take 2) : Nat) : Int)), (7, .int .i64 (a + 2))] (by kernel_rfl) ?_
                refine drawT (fun k => k = g8 ∨ k = g9) (by kernel_rfl) (by kernel_rfl) ?_
                intro w44 hx44 hz44
                have h_44 := h
                have hg43_44 := hg43
                have hg8_44 := hg8
                have hg9_44 := hg9
                replace h_44 := h_44.ex hx44
                replace hg43_44 := hx44.blk hg43_44 (fun e => e)
                replace hg8_44 := hx44.blk hg8_44 (fun e => e)
                replace hg9_44 := hx44.blk hg9_44 (fun e => e)
                replace hF := hF.ex hx44
                have hS44 := Kp.refl (fun k => k = g8 ∨ k = g9) w44
                refine segD [1, 3, 4, 5, 6] [1, 3, 4, 5, 6] [(2, .pointer (some (⟨g6, 0, none⟩))), (4, .pointer (some (⟨g8, 0, none⟩))), (5, .pointer (some (⟨g9, 0, none⟩))), (81, .pointer (some (⟨g6, 0, none⟩))), (83, .int .i64 (a + 2)), (86, .int .i64 (IntKind.i64.wrap ((a + 2) + ((le ((l.drop (a).toNat).take 2) : Nat) : Int))))] (by kernel_rfl) ?_
                rw [show IntKind.i64.wrap ((a + 2) + ((le ((l.drop (a).toNat).take 2) : Nat) : Int)) = ((a + 2) + ((le ((l.drop (a).toNat).take 2) : Nat) : Int)) from w64 (by omega)]
                refine takeD (i := 0) (d := (some 80)) (s := vS (Instr.loadAt 66 (.pointer (some (⟨g6, 0, none⟩))))) (v := .agg #[.slice A m c, .int .i64 ((a + 2) + ((le ((l.drop (a).toNat).take 2) : Nat) : Int)), .int .i64 e0]) (by kernel_rfl) (by kernel_rfl) (fun w' hw' => aggRun _ _ [.slice A m c, .int .i64 ((a + 2) + ((le ((l.drop (a).toNat).take 2) : Nat) : Int)), .int .i64 e0] (by kernel_rfl) (fun j v hj => hw'.cell (blk_cells (vs := [.slice A m c, .int .i64 ((a + 2) + ((le ((l.drop (a).toNat).take 2) : Nat) : Int)), .int .i64 e0]) hg43_44 (by rfl) j v hj) (by (try simp only [add_block]); exact (fun e => by have e : g6 = g8 ∨ g6 = g9 := e; omega)))) ?_
                refine takeD (i := 2) (d := (some 82)) (s := vS (Instr.loadAt 22 (.pointer (some (⟨g6, 0, none⟩))))) (v := .slice A m c) (by kernel_rfl) (by kernel_rfl) (fun w' hw' => ld_run _ _ _ (by kernel_rfl) (hw'.cell (blk_cell hg43_44 rfl) (fun e => by have e : g6 = g8 ∨ g6 = g9 := e; omega))) ?_
                refine sliD (i := 7) (d := (some 87)) 22 5 1 A m c (some (.int .i64 (a + 2))) (some (.int .i64 ((a + 2) + ((le ((l.drop (a).toNat).take 2) : Nat) : Int)))) (((a + 2)).toNat) ((((a + 2) + ((le ((l.drop (a).toNat).take 2) : Nat) : Int))).toNat) (by kernel_rfl) (by kernel_rfl) (by kernel_rfl) (.inr ⟨_, _, rfl, by omega⟩) (.inr ⟨_, _, rfl, by omega⟩) (by omega) (by omega) ?_
                intro A45 hA45 hB45 hC45
                have hs45 := (hA45 _ _ _ _ h_44 (by rw [bs_length]; omega)).take ((((a + 2) + ((le ((l.drop (a).toNat).take 2) : Nat) : Int))).toNat - ((a + 2)).toNat)
                rw [show (((a + 2)).toNat) * 1 = ((a + 2)).toNat from by omega, ← bs_drop, ← bs_take] at hs45
                refine segD [8] [1, 3, 4, 5, 6, 0, 2, 7, 8] [(4, .pointer (some (⟨g8, 0, none⟩))), (5, .pointer (some (⟨g9, 0, none⟩))), (80, .agg #[.slice A m c, .int .i64 ((a + 2) + ((le ((l.drop (a).toNat).take 2) : Nat) : Int)), .int .i64 e0]), (88, .agg #[.int .u64 0, .slice A45 ((((a + 2) + ((le ((l.drop (a).toNat).take 2) : Nat) : Int))).toNat - ((a + 2)).toNat) (c - ((a + 2)).toNat)])] (by kernel_rfl) ?_
                refine stD (i := 9) (by kernel_rfl) hS44 (stAggR none 66 g8 0 [.slice A m c, .int .i64 ((a + 2) + ((le ((l.drop (a).toNat).take 2) : Nat) : Int)), .int .i64 e0] #[.slice none 0 0, .int .i64 0, .int .i64 0] #[.slice A m c, .int .i64 ((a + 2) + ((le ((l.drop (a).toNat).take 2) : Nat) : Int)), .int .i64 e0] 66 (by kernel_rfl) (by kernel_rfl) (by rfl) hg8_44 (by simp) (by rfl) ?_)
                intro w46 hx46 hg46 hz46
                have h_46 := h_44
                have hs45_46 := hs45
                have hg8_46 := hg8_44
                have hg9_46 := hg9_44
                have hS44_46 := hS44
                replace h_46 := h_46.kp hx46 (fun k (hk : k = g8) => by omega)
                replace hs45_46 := hs45_46.kp hx46 (fun k (hk : k = g8) => by omega)
                replace hg9_46 := hx46.blk hg9_46 (fun e => by have e : g9 = g8 := e; omega)
                replace hS44_46 := hS44_46.step hx46 (fun k hk hlt => by have hk : k = g8 := hk; first | omega | (show False; omega))
                replace hF := hF.step hx46 (fun k hk hlt => by have hk : k = g8 := hk; omega)
                refine stD (i := 10) (by kernel_rfl) hS44_46 (stAggR none 68 g9 0 [.int .u64 0, .slice A45 ((((a + 2) + ((le ((l.drop (a).toNat).take 2) : Nat) : Int))).toNat - ((a + 2)).toNat) (c - ((a + 2)).toNat)] #[.int .u64 0, .slice none 0 0] #[.int .u64 0, .slice A45 ((((a + 2) + ((le ((l.drop (a).toNat).take 2) : Nat) : Int))).toNat - ((a + 2)).toNat) (c - ((a + 2)).toNat)] 68 (by kernel_rfl) (by kernel_rfl) (by rfl) hg9_46 (by simp) (by rfl) ?_)
                intro w47 hx47 hg47 hz47
                have h_47 := h_46
                have hs45_47 := hs45_46
                have hg46_47 := hg46
                have hg9_47 := hg9_46
                have hS44_47 := hS44_46
                replace h_47 := h_47.kp hx47 (fun k (hk : k = g9) => by omega)
                replace hs45_47 := hs45_47.kp hx47 (fun k (hk : k = g9) => by omega)
                replace hg46_47 := hx47.blk hg46_47 (fun e => by have e : g8 = g9 := e; omega)
                replace hS44_47 := hS44_47.step hx47 (fun k hk hlt => by have hk : k = g9 := hk; first | omega | (show False; omega))
                replace hF := hF.step hx47 (fun k hk hlt => by have hk : k = g9 := hk; omega)
                refine endD (by kernel_rfl) hS44_47 ?_
                refine retC [.agg #[.slice A m c, .int .i64 ((a + 2) + ((le ((l.drop (a).toNat).take 2) : Nat) : Int)), .int .i64 e0], .agg #[.int .u64 0, .slice A45 ((((a + 2) + ((le ((l.drop (a).toNat).take 2) : Nat) : Int))).toNat - ((a + 2)).toNat) (c - ((a + 2)).toNat)]] (by kernel_rfl) ⟨⟨_, rfl, ldv_agg 66 (⟨g8, 0, none⟩) [.slice A m c, .int .i64 ((a + 2) + ((le ((l.drop (a).toNat).take 2) : Nat) : Int)), .int .i64 e0] (by kernel_rfl) (blk_cells hg46_47 (by rfl))⟩, ⟨_, rfl, ldv_agg 68 (⟨g9, 0, none⟩) [.int .u64 0, .slice A45 ((((a + 2) + ((le ((l.drop (a).toNat).take 2) : Nat) : Int))).toNat - ((a + 2)).toNat) (c - ((a + 2)).toNat)] (by kernel_rfl) (blk_cells hg47 (by rfl))⟩, trivial⟩ ?_
                have ee : rdE x.Do x.N l a e0 = 0 := by simp [rdE, takeE, textE, numW, hml, h10, h13, h31, h35, hb36, h38, hb42]
                rw [ee]
                obtain rfl : e0 = 0 := h10
                have ea : rdA x.Do x.N l a 0 = a + 2 + ((le ((l.drop a.toNat).take 2) : Nat) : Int) := by simp [rdA, textA, h13, h35]
                have ev : rdV x.Do x.N l a 0 = 0 := by simp [rdV, h13]
                have el : rdL x.Do x.N l a 0 = (l.drop (a.toNat + 2)).take (le ((l.drop a.toNat).take 2)) := by simp [rdL, textL, h13, h35]
                have t1 : (a + 2).toNat = a.toNat + 2 := by omega
                have t2 : (a + 2 + ((le ((l.drop a.toNat).take 2) : Nat) : Int)).toNat - (a.toNat + 2) = le ((l.drop a.toNat).take 2) := by omega
                have hlen : ((l.drop (a.toNat + 2)).take (le ((l.drop a.toNat).take 2))).length = le ((l.drop a.toNat).take 2) := by
                  rw [List.length_take, List.length_drop]
                  omega
                rw [ea, ev, el, hlen]
                rw [t1, t2] at hs45_47
                refine ⟨_, rfl, A45, (c - ((a + 2)).toNat), ?_, hF, hs45_47, ?_⟩
                · simp only [packV, t1, t2]
                  rfl
                · omega
              · rw [hb42]
                refine seg 4 [.op [1, 1, 1, 1, 1, 1, 0, 1, 0, 0] 1, .co [1, 1, 1, 1, 1, 1, 0, 1, 0, 1], .co [1, 1, 1, 1, 1, 1, 1]] [(2, .pointer (some (⟨g6, 0, none⟩))), (4, .pointer (some (⟨g8, 0, none⟩))), (5, .pointer (some (⟨g9, 0, none⟩))), (63, .pointer (some (⟨g6, 2, none⟩)))] (by kernel_rfl) ?_
                refine st (stR none 3 g6 2 (.int .i64 6) #[.slice A m c, .int .i64 a, .int .i64 e0] 66 (by kernel_rfl) (by kernel_rfl) rfl hg6 (by simp) ?_)
                intro w48 hx48 hg48 hz48
                replace h := h.kp hx48 (fun k (hk : k = g6) => by omega)
                replace hg8 := hx48.blk hg8 (fun e => by have e : g8 = g6 := e; omega)
                replace hg9 := hx48.blk hg9 (fun e => by have e : g9 = g6 := e; omega)
                replace hF := hF.step hx48 (fun k hk hlt => by have hk : k = g6 := hk; omega)
                replace hg48 : w48.heap[g6]? = some (.cells #[.slice A m c, .int .i64 a, .int .i64 6] 66 (0, 0)) := hg48
                refine seg 3 [.op [1, 1, 1, 1, 1, 1, 0, 1, 0, 1, 0] 0, .co [1, 1, 1, 1, 1, 1, 0, 1, 0, 1, 1], .co [1, 1, 1, 1, 1, 1, 1]] [(2, .pointer (some (⟨g6, 0, none⟩))), (4, .pointer (some (⟨g8, 0, none⟩))), (5, .pointer (some (⟨g9, 0, none⟩)))] (by kernel_rfl) ?_
                refine st (ldAggR (some 64) 66 (⟨g6, 0, none⟩) [.slice A m c, .int .i64 a, .int .i64 6] (by kernel_rfl) (by kernel_rfl) (blk_cells hg48 (by kernel_rfl)) ?_)
                refine seg 1 [.op [1, 1, 1, 1, 1, 1, 0, 1, 0, 1, 0] 2, .co [1, 1, 1, 1, 1, 1, 0, 1, 0, 1, 1], .co [1, 1, 1, 1, 1, 1, 1]] [(4, .pointer (some (⟨g8, 0, none⟩))), (5, .pointer (some (⟨g9, 0, none⟩))), (64, .agg #[.slice A m c, .int .i64 a, .int .i64 6]), (65, .agg #[.int .u64 0, .slice none 0 0])] (by kernel_rfl) ?_
                refine st (stAggR none 66 g8 0 [.slice A m c, .int .i64 a, .int .i64 6] #[.slice none 0 0, .int .i64 0, .int .i64 0] #[.slice A m c, .int .i64 a, .int .i64 6] 66 (by kernel_rfl) (by kernel_rfl) (by rfl) hg8 (by simp) (by rfl) ?_)
                intro w49 hx49 hg49 hz49
                replace h := h.kp hx49 (fun k (hk : k = g8) => by omega)
                replace hg9 := hx49.blk hg9 (fun e => by have e : g9 = g8 := e; omega)
                replace hF := hF.step hx49 (fun k hk hlt => by have hk : k = g8 := hk; omega)
                refine st (stAggR none 68 g9 0 [.int .u64 0, .slice none 0 0] #[.int .u64 0, .slice none 0 0] #[.int .u64 0, .slice none 0 0] 68 (by kernel_rfl) (by kernel_rfl) (by rfl) hg9 (by simp) (by rfl) ?_)
                intro w50 hx50 hg50 hz50
                replace h := h.kp hx50 (fun k (hk : k = g9) => by omega)
                replace hg49 := hx50.blk hg49 (fun e => by have e : g8 = g9 := e; omega)
                replace hF := hF.step hx50 (fun k hk hlt => by have hk : k = g9 := hk; omega)
                refine seg 1 [.co [1, 1, 1, 1, 1, 1, 0, 1, 0, 1, 1], .co [1, 1, 1, 1, 1, 1, 1]] [(4, .pointer (some (⟨g8, 0, none⟩))), (5, .pointer (some (⟨g9, 0, none⟩)))] (by kernel_rfl) ?_
                refine retC [.agg #[.slice A m c, .int .i64 a, .int .i64 6], .agg #[.int .u64 0, .slice none 0 0]] (by kernel_rfl) ⟨⟨_, rfl, ldv_agg 66 (⟨g8, 0, none⟩) [.slice A m c, .int .i64 a, .int .i64 6] (by kernel_rfl) (blk_cells hg49 (by rfl))⟩, ⟨_, rfl, ldv_agg 68 (⟨g9, 0, none⟩) [.int .u64 0, .slice none 0 0] (by kernel_rfl) (blk_cells hg50 (by rfl))⟩, trivial⟩ ?_
                have ee : rdE x.Do x.N l a e0 = 6 := by simp [rdE, takeE, textE, numW, hml, h10, h13, h31, h35, hb36, h38, hb42]
                rw [ee]
                have ez : (6 : Int) ≠ 0 := by first | assumption | decide
                have ea : rdA x.Do x.N l a 6 = a := by simp [rdA, takeA, textA, ez]
                have ev : rdV x.Do x.N l a 6 = 0 := by simp [rdV, takeL, ez, le]
                have el : rdL x.Do x.N l a 6 = [] := by simp [rdL, takeL, textL, ez]
                rw [ea, ev, el]
                exact ⟨_, rfl, none, 0, rfl, hF, Cs.nil _ _ _ _, Nat.le_refl _⟩
          · rw [hb36]
            refine seg 4 [.op [1, 1, 1, 1, 1, 0, 1, 0, 0, 1, 0, 0] 1, .co [1, 1, 1, 1, 1, 0, 1, 0, 0, 1, 0, 1], .co [1, 1, 1, 1, 1, 0, 1, 0, 1], .co [1, 1, 1, 1, 1, 1]] [(2, .pointer (some (⟨g6, 0, none⟩))), (4, .pointer (some (⟨g8, 0, none⟩))), (5, .pointer (some (⟨g9, 0, none⟩))), (40, .pointer (some (⟨g6, 2, none⟩)))] (by kernel_rfl) ?_
            refine st (stR none 3 g6 2 (.int .i64 6) #[.slice A m c, .int .i64 a, .int .i64 e0] 66 (by kernel_rfl) (by kernel_rfl) rfl hg6 (by simp) ?_)
            intro w51 hx51 hg51 hz51
            replace h := h.kp hx51 (fun k (hk : k = g6) => by omega)
            replace hg8 := hx51.blk hg8 (fun e => by have e : g8 = g6 := e; omega)
            replace hg9 := hx51.blk hg9 (fun e => by have e : g9 = g6 := e; omega)
            replace hF := hF.step hx51 (fun k hk hlt => by have hk : k = g6 := hk; omega)
            replace hg51 : w51.heap[g6]? = some (.cells #[.slice A m c, .int .i64 a, .int .i64 6] 66 (0, 0)) := hg51
            refine seg 3 [.op [1, 1, 1, 1, 1, 0, 1, 0, 0, 1, 0, 1, 0] 0, .co [1, 1, 1, 1, 1, 0, 1, 0, 0, 1, 0, 1, 1], .co [1, 1, 1, 1, 1, 0, 1, 0, 1], .co [1, 1, 1, 1, 1, 1]] [(2, .pointer (some (⟨g6, 0, none⟩))), (4, .pointer (some (⟨g8, 0, none⟩))), (5, .pointer (some (⟨g9, 0, none⟩)))] (by kernel_rfl) ?_
            refine st (ldAggR (some 41) 66 (⟨g6, 0, none⟩) [.slice A m c, .int .i64 a, .int .i64 6] (by kernel_rfl) (by kernel_rfl) (blk_cells hg51 (by kernel_rfl)) ?_)
            refine seg 1 [.op [1, 1, 1, 1, 1, 0, 1, 0, 0, 1, 0, 1, 0] 2, .co [1, 1, 1, 1, 1, 0, 1, 0, 0, 1, 0, 1, 1], .co [1, 1, 1, 1, 1, 0, 1, 0, 1], .co [1, 1, 1, 1, 1, 1]] [(4, .pointer (some (⟨g8, 0, none⟩))), (5, .pointer (some (⟨g9, 0, none⟩))), (41, .agg #[.slice A m c, .int .i64 a, .int .i64 6]), (42, .agg #[.int .u64 0, .slice none 0 0])] (by kernel_rfl) ?_
            refine st (stAggR none 66 g8 0 [.slice A m c, .int .i64 a, .int .i64 6] #[.slice none 0 0, .int .i64 0, .int .i64 0] #[.slice A m c, .int .i64 a, .int .i64 6] 66 (by kernel_rfl) (by kernel_rfl) (by rfl) hg8 (by simp) (by rfl) ?_)
            intro w52 hx52 hg52 hz52
            replace h := h.kp hx52 (fun k (hk : k = g8) => by omega)
            replace hg9 := hx52.blk hg9 (fun e => by have e : g9 = g8 := e; omega)
            replace hF := hF.step hx52 (fun k hk hlt => by have hk : k = g8 := hk; omega)
            refine st (stAggR none 68 g9 0 [.int .u64 0, .slice none 0 0] #[.int .u64 0, .slice none 0 0] #[.int .u64 0, .slice none 0 0] 68 (by kernel_rfl) (by kernel_rfl) (by rfl) hg9 (by simp) (by rfl) ?_)
            intro w53 hx53 hg53 hz53
            replace h := h.kp hx53 (fun k (hk : k = g9) => by omega)
            replace hg52 := hx53.blk hg52 (fun e => by have e : g8 = g9 := e; omega)
            replace hF := hF.step hx53 (fun k hk hlt => by have hk : k = g9 := hk; omega)
            refine seg 1 [.co [1, 1, 1, 1, 1, 0, 1, 0, 0, 1, 0, 1, 1], .co [1, 1, 1, 1, 1, 0, 1, 0, 1], .co [1, 1, 1, 1, 1, 1]] [(4, .pointer (some (⟨g8, 0, none⟩))), (5, .pointer (some (⟨g9, 0, none⟩)))] (by kernel_rfl) ?_
            refine retC [.agg #[.slice A m c, .int .i64 a, .int .i64 6], .agg #[.int .u64 0, .slice none 0 0]] (by kernel_rfl) ⟨⟨_, rfl, ldv_agg 66 (⟨g8, 0, none⟩) [.slice A m c, .int .i64 a, .int .i64 6] (by kernel_rfl) (blk_cells hg52 (by rfl))⟩, ⟨_, rfl, ldv_agg 68 (⟨g9, 0, none⟩) [.int .u64 0, .slice none 0 0] (by kernel_rfl) (blk_cells hg53 (by rfl))⟩, trivial⟩ ?_
            have ee : rdE x.Do x.N l a e0 = 6 := by simp [rdE, takeE, textE, numW, hml, h10, h13, h31, h35, hb36]
            rw [ee]
            have ez : (6 : Int) ≠ 0 := by first | assumption | decide
            have ea : rdA x.Do x.N l a 6 = a := by simp [rdA, takeA, textA, ez]
            have ev : rdV x.Do x.N l a 6 = 0 := by simp [rdV, takeL, ez, le]
            have el : rdL x.Do x.N l a 6 = [] := by simp [rdL, takeL, textL, ez]
            rw [ea, ev, el]
            exact ⟨_, rfl, none, 0, rfl, hF, Cs.nil _ _ _ _, Nat.le_refl _⟩
        · rw [hb35]
          have h35 : x.Do ≠ 2 := by simpa using hb35
          refine seg 6 [.op [1, 1, 1, 1, 1, 1, 0, 0] 1, .co [1, 1, 1, 1, 1, 1, 0, 1], .co [1, 1, 1, 1, 1, 1, 1]] [(2, .pointer (some (⟨g6, 0, none⟩))), (3, .pointer (some (⟨g7, 0, none⟩))), (4, .pointer (some (⟨g8, 0, none⟩))), (5, .pointer (some (⟨g9, 0, none⟩))), (6, .int .i64 x.N), (7, .int .i64 a), (57, .pointer (some (⟨g6, 0, none⟩)))] (by kernel_rfl) ?_
          refine st (ldR (some 58) 22 (⟨g6, 0, none⟩) (.slice A m c) (by kernel_rfl) (by kernel_rfl) (blk_cell hg6 rfl) ?_)
          refine seg 2 [.op [1, 1, 1, 1, 1, 1, 0, 0] 4, .co [1, 1, 1, 1, 1, 1, 0, 1], .co [1, 1, 1, 1, 1, 1, 1]] [(2, .pointer (some (⟨g6, 0, none⟩))), (3, .pointer (some (⟨g7, 0, none⟩))), (4, .pointer (some (⟨g8, 0, none⟩))), (5, .pointer (some (⟨g9, 0, none⟩))), (6, .int .i64 x.N), (7, .int .i64 a), (58, .slice A m c), (59, .int .i64 a), (60, .int .i64 x.N)] (by kernel_rfl) ?_
          refine st (callR (some 61) 26 #[.slice A m c, .int .i64 a, .int .i64 x.N] Try.call26 (rin_c w9 A m c a x.N (by omega) (by omega) (by omega)) (by kernel_rfl) ?_)
          rintro _ _ ⟨rfl, rfl⟩
          refine seg 2 [.co [1, 1, 1, 1, 1, 1, 0, 1], .co [1, 1, 1, 1, 1, 1, 1]] [(2, .pointer (some (⟨g6, 0, none⟩))), (3, .pointer (some (⟨g7, 0, none⟩))), (4, .pointer (some (⟨g8, 0, none⟩))), (5, .pointer (some (⟨g9, 0, none⟩))), (6, .int .i64 x.N), (7, .int .i64 a), (62, .bool (!(withinB m a x.N)))] (by kernel_rfl) ?_
          rcases bsplit (withinB m a x.N) with hb54 | hb54
          · rw [hb54]
            have h54 := within_of hb54
            refine seg 8 [.op [1, 1, 1, 1, 1, 1, 1, 0] 4, .co [1, 1, 1, 1, 1, 1, 1, 1]] [(2, .pointer (some (⟨g6, 0, none⟩))), (3, .pointer (some (⟨g7, 0, none⟩))), (4, .pointer (some (⟨g8, 0, none⟩))), (5, .pointer (some (⟨g9, 0, none⟩))), (6, .int .i64 x.N), (7, .int .i64 a), (68, .int .i64 (IntKind.i64.wrap (a + x.N))), (69, .pointer (some (⟨g6, 1, none⟩)))] (by kernel_rfl) ?_
            rw [show IntKind.i64.wrap (a + x.N) = (a + x.N) from w64 (by omega)]
            refine st (stR none 3 g6 1 (.int .i64 (a + x.N)) #[.slice A m c, .int .i64 a, .int .i64 e0] 66 (by kernel_rfl) (by kernel_rfl) rfl hg6 (by simp) ?_)
            intro w55 hx55 hg55 hz55
            replace h := h.kp hx55 (fun k (hk : k = g6) => by omega)
            replace hx : TAct.Ok _ _ _ x := Dat.kp (a := x) hx hx55 (fun k (hk : k = g6) => by omega)
            replace hg7 := hx55.blk hg7 (fun e => by have e : g7 = g6 := e; omega)
            replace hg8 := hx55.blk hg8 (fun e => by have e : g8 = g6 := e; omega)
            replace hg9 := hx55.blk hg9 (fun e => by have e : g9 = g6 := e; omega)
            replace hF := hF.step hx55 (fun k hk hlt => by have hk : k = g6 := hk; omega)
            replace hg55 : w55.heap[g6]? = some (.cells #[.slice A m c, .int .i64 (a + x.N), .int .i64 e0] 66 (0, 0)) := hg55
            refine seg 5 [.op [1, 1, 1, 1, 1, 1, 1, 1, 0, 0] 1, .co [1, 1, 1, 1, 1, 1, 1, 1, 0, 1], .co [1, 1, 1, 1, 1, 1, 1, 1, 1]] [(2, .pointer (some (⟨g6, 0, none⟩))), (4, .pointer (some (⟨g8, 0, none⟩))), (5, .pointer (some (⟨g9, 0, none⟩))), (6, .int .i64 x.N), (7, .int .i64 a), (70, .pointer (some (⟨g7, 0, none⟩)))] (by kernel_rfl) ?_
            refine st (ldR (some 71) 3 (⟨g7, 0, none⟩) (.int .i64 x.Do) (by kernel_rfl) (by kernel_rfl) (blk_cell hg7 rfl) ?_)
            refine seg 2 [.co [1, 1, 1, 1, 1, 1, 1, 1, 0, 1], .co [1, 1, 1, 1, 1, 1, 1, 1, 1]] [(2, .pointer (some (⟨g6, 0, none⟩))), (4, .pointer (some (⟨g8, 0, none⟩))), (5, .pointer (some (⟨g9, 0, none⟩))), (6, .int .i64 x.N), (7, .int .i64 a), (72, .bool (x.Do == 0))] (by kernel_rfl) ?_
            rw [show (x.Do == 0) = false from hb13]
            refine seg 3 [.co [1, 1, 1, 1, 1, 1, 1, 1, 1, 0], .co [1, 1, 1, 1, 1, 1, 1, 1, 1, 1]] [(2, .pointer (some (⟨g6, 0, none⟩))), (4, .pointer (some (⟨g8, 0, none⟩))), (5, .pointer (some (⟨g9, 0, none⟩))), (6, .int .i64 x.N), (7, .int .i64 a)] (by kernel_rfl) ?_
            refine drawT (fun k => k = g8 ∨ k = g9) (by kernel_rfl) (by kernel_rfl) ?_
            intro w56 hx56 hz56
            have h_56 := h
            have hg55_56 := hg55
            have hg8_56 := hg8
            have hg9_56 := hg9
            have hx_56 := hx
            replace h_56 := h_56.ex hx56
            replace hx_56 : TAct.Ok _ _ _ x := Dat.kp (a := x) hx_56 hx56 (fun _ e => e.elim)
            replace hg55_56 := hx56.blk hg55_56 (fun e => e)
            replace hg8_56 := hx56.blk hg8_56 (fun e => e)
            replace hg9_56 := hx56.blk hg9_56 (fun e => e)
            replace hF := hF.ex hx56
            have hS56 := Kp.refl (fun k => k = g8 ∨ k = g9) w56
            refine segD [1, 3, 4, 5, 6] [1, 3, 4, 5, 6] [(2, .pointer (some (⟨g6, 0, none⟩))), (4, .pointer (some (⟨g8, 0, none⟩))), (5, .pointer (some (⟨g9, 0, none⟩))), (81, .pointer (some (⟨g6, 0, none⟩))), (83, .int .i64 a), (86, .int .i64 (IntKind.i64.wrap (a + x.N)))] (by kernel_rfl) ?_
            rw [show IntKind.i64.wrap (a + x.N) = (a + x.N) from w64 (by omega)]
            refine takeD (i := 0) (d := (some 80)) (s := vS (Instr.loadAt 66 (.pointer (some (⟨g6, 0, none⟩))))) (v := .agg #[.slice A m c, .int .i64 (a + x.N), .int .i64 e0]) (by kernel_rfl) (by kernel_rfl) (fun w' hw' => aggRun _ _ [.slice A m c, .int .i64 (a + x.N), .int .i64 e0] (by kernel_rfl) (fun j v hj => hw'.cell (blk_cells (vs := [.slice A m c, .int .i64 (a + x.N), .int .i64 e0]) hg55_56 (by rfl) j v hj) (by (try simp only [add_block]); exact (fun e => by have e : g6 = g8 ∨ g6 = g9 := e; omega)))) ?_
            refine takeD (i := 2) (d := (some 82)) (s := vS (Instr.loadAt 22 (.pointer (some (⟨g6, 0, none⟩))))) (v := .slice A m c) (by kernel_rfl) (by kernel_rfl) (fun w' hw' => ld_run _ _ _ (by kernel_rfl) (hw'.cell (blk_cell hg55_56 rfl) (fun e => by have e : g6 = g8 ∨ g6 = g9 := e; omega))) ?_
            refine sliD (i := 7) (d := (some 87)) 22 5 1 A m c (some (.int .i64 a)) (some (.int .i64 (a + x.N))) ((a).toNat) (((a + x.N)).toNat) (by kernel_rfl) (by kernel_rfl) (by kernel_rfl) (.inr ⟨_, _, rfl, by omega⟩) (.inr ⟨_, _, rfl, by omega⟩) (by omega) (by omega) ?_
            intro A57 hA57 hB57 hC57
            have hs57 := (hA57 _ _ _ _ h_56 (by rw [bs_length]; omega)).take (((a + x.N)).toNat - (a).toNat)
            rw [show ((a).toNat) * 1 = (a).toNat from by omega, ← bs_drop, ← bs_take] at hs57
            refine segD [8] [1, 3, 4, 5, 6, 0, 2, 7, 8] [(4, .pointer (some (⟨g8, 0, none⟩))), (5, .pointer (some (⟨g9, 0, none⟩))), (80, .agg #[.slice A m c, .int .i64 (a + x.N), .int .i64 e0]), (88, .agg #[.int .u64 0, .slice A57 (((a + x.N)).toNat - (a).toNat) (c - (a).toNat)])] (by kernel_rfl) ?_
            refine stD (i := 9) (by kernel_rfl) hS56 (stAggR none 66 g8 0 [.slice A m c, .int .i64 (a + x.N), .int .i64 e0] #[.slice none 0 0, .int .i64 0, .int .i64 0] #[.slice A m c, .int .i64 (a + x.N), .int .i64 e0] 66 (by kernel_rfl) (by kernel_rfl) (by rfl) hg8_56 (by simp) (by rfl) ?_)
            intro w58 hx58 hg58 hz58
            have h_58 := h_56
            have hs57_58 := hs57
            have hg8_58 := hg8_56
            have hg9_58 := hg9_56
            have hx_58 := hx_56
            have hS56_58 := hS56
            replace h_58 := h_58.kp hx58 (fun k (hk : k = g8) => by omega)
            replace hs57_58 := hs57_58.kp hx58 (fun k (hk : k = g8) => by omega)
            replace hx_58 : TAct.Ok _ _ _ x := Dat.kp (a := x) hx_58 hx58 (fun k (hk : k = g8) => by omega)
            replace hg9_58 := hx58.blk hg9_58 (fun e => by have e : g9 = g8 := e; omega)
            replace hS56_58 := hS56_58.step hx58 (fun k hk hlt => by have hk : k = g8 := hk; first | omega | (show False; omega))
            replace hF := hF.step hx58 (fun k hk hlt => by have hk : k = g8 := hk; omega)
            refine stD (i := 10) (by kernel_rfl) hS56_58 (stAggR none 68 g9 0 [.int .u64 0, .slice A57 (((a + x.N)).toNat - (a).toNat) (c - (a).toNat)] #[.int .u64 0, .slice none 0 0] #[.int .u64 0, .slice A57 (((a + x.N)).toNat - (a).toNat) (c - (a).toNat)] 68 (by kernel_rfl) (by kernel_rfl) (by rfl) hg9_58 (by simp) (by rfl) ?_)
            intro w59 hx59 hg59 hz59
            have h_59 := h_58
            have hs57_59 := hs57_58
            have hg58_59 := hg58
            have hg9_59 := hg9_58
            have hx_59 := hx_58
            have hS56_59 := hS56_58
            replace h_59 := h_59.kp hx59 (fun k (hk : k = g9) => by omega)
            replace hs57_59 := hs57_59.kp hx59 (fun k (hk : k = g9) => by omega)
            replace hx_59 : TAct.Ok _ _ _ x := Dat.kp (a := x) hx_59 hx59 (fun k (hk : k = g9) => by omega)
            replace hg58_59 := hx59.blk hg58_59 (fun e => by have e : g8 = g9 := e; omega)
            replace hS56_59 := hS56_59.step hx59 (fun k hk hlt => by have hk : k = g9 := hk; first | omega | (show False; omega))
            replace hF := hF.step hx59 (fun k hk hlt => by have hk : k = g9 := hk; omega)
            refine endD (by kernel_rfl) hS56_59 ?_
            refine retC [.agg #[.slice A m c, .int .i64 (a + x.N), .int .i64 e0], .agg #[.int .u64 0, .slice A57 (((a + x.N)).toNat - (a).toNat) (c - (a).toNat)]] (by kernel_rfl) ⟨⟨_, rfl, ldv_agg 66 (⟨g8, 0, none⟩) [.slice A m c, .int .i64 (a + x.N), .int .i64 e0] (by kernel_rfl) (blk_cells hg58_59 (by rfl))⟩, ⟨_, rfl, ldv_agg 68 (⟨g9, 0, none⟩) [.int .u64 0, .slice A57 (((a + x.N)).toNat - (a).toNat) (c - (a).toNat)] (by kernel_rfl) (blk_cells hg59 (by rfl))⟩, trivial⟩ ?_
            have ee : rdE x.Do x.N l a e0 = 0 := by simp [rdE, takeE, textE, numW, hml, h10, h13, h31, h35, hb54]
            rw [ee]
            obtain rfl : e0 = 0 := h10
            have ea : rdA x.Do x.N l a 0 = a + x.N := by simp [rdA, takeA, h13, h35]
            have ev : rdV x.Do x.N l a 0 = 0 := by simp [rdV, h13]
            have el : rdL x.Do x.N l a 0 = (l.drop a.toNat).take x.N.toNat := by simp [rdL, takeL, h13, h35]
            have t1 : a.toNat = a.toNat := rfl
            have t2 : (a + x.N).toNat - a.toNat = x.N.toNat := by omega
            have hlen : ((l.drop a.toNat).take x.N.toNat).length = x.N.toNat := by
              rw [List.length_take, List.length_drop]
              omega
            rw [ea, ev, el, hlen]
            rw [t2] at hs57_59
            refine ⟨_, rfl, A57, (c - (a).toNat), ?_, hF, hs57_59, ?_⟩
            · simp only [packV, t2]
              rfl
            · omega
          · rw [hb54]
            refine seg 4 [.op [1, 1, 1, 1, 1, 1, 0, 1, 0, 0] 1, .co [1, 1, 1, 1, 1, 1, 0, 1, 0, 1], .co [1, 1, 1, 1, 1, 1, 1]] [(2, .pointer (some (⟨g6, 0, none⟩))), (4, .pointer (some (⟨g8, 0, none⟩))), (5, .pointer (some (⟨g9, 0, none⟩))), (63, .pointer (some (⟨g6, 2, none⟩)))] (by kernel_rfl) ?_
            refine st (stR none 3 g6 2 (.int .i64 6) #[.slice A m c, .int .i64 a, .int .i64 e0] 66 (by kernel_rfl) (by kernel_rfl) rfl hg6 (by simp) ?_)
            intro w60 hx60 hg60 hz60
            replace h := h.kp hx60 (fun k (hk : k = g6) => by omega)
            replace hg8 := hx60.blk hg8 (fun e => by have e : g8 = g6 := e; omega)
            replace hg9 := hx60.blk hg9 (fun e => by have e : g9 = g6 := e; omega)
            replace hF := hF.step hx60 (fun k hk hlt => by have hk : k = g6 := hk; omega)
            replace hg60 : w60.heap[g6]? = some (.cells #[.slice A m c, .int .i64 a, .int .i64 6] 66 (0, 0)) := hg60
            refine seg 3 [.op [1, 1, 1, 1, 1, 1, 0, 1, 0, 1, 0] 0, .co [1, 1, 1, 1, 1, 1, 0, 1, 0, 1, 1], .co [1, 1, 1, 1, 1, 1, 1]] [(2, .pointer (some (⟨g6, 0, none⟩))), (4, .pointer (some (⟨g8, 0, none⟩))), (5, .pointer (some (⟨g9, 0, none⟩)))] (by kernel_rfl) ?_
            refine st (ldAggR (some 64) 66 (⟨g6, 0, none⟩) [.slice A m c, .int .i64 a, .int .i64 6] (by kernel_rfl) (by kernel_rfl) (blk_cells hg60 (by kernel_rfl)) ?_)
            refine seg 1 [.op [1, 1, 1, 1, 1, 1, 0, 1, 0, 1, 0] 2, .co [1, 1, 1, 1, 1, 1, 0, 1, 0, 1, 1], .co [1, 1, 1, 1, 1, 1, 1]] [(4, .pointer (some (⟨g8, 0, none⟩))), (5, .pointer (some (⟨g9, 0, none⟩))), (64, .agg #[.slice A m c, .int .i64 a, .int .i64 6]), (65, .agg #[.int .u64 0, .slice none 0 0])] (by kernel_rfl) ?_
            refine st (stAggR none 66 g8 0 [.slice A m c, .int .i64 a, .int .i64 6] #[.slice none 0 0, .int .i64 0, .int .i64 0] #[.slice A m c, .int .i64 a, .int .i64 6] 66 (by kernel_rfl) (by kernel_rfl) (by rfl) hg8 (by simp) (by rfl) ?_)
            intro w61 hx61 hg61 hz61
            replace h := h.kp hx61 (fun k (hk : k = g8) => by omega)
            replace hg9 := hx61.blk hg9 (fun e => by have e : g9 = g8 := e; omega)
            replace hF := hF.step hx61 (fun k hk hlt => by have hk : k = g8 := hk; omega)
            refine st (stAggR none 68 g9 0 [.int .u64 0, .slice none 0 0] #[.int .u64 0, .slice none 0 0] #[.int .u64 0, .slice none 0 0] 68 (by kernel_rfl) (by kernel_rfl) (by rfl) hg9 (by simp) (by rfl) ?_)
            intro w62 hx62 hg62 hz62
            replace h := h.kp hx62 (fun k (hk : k = g9) => by omega)
            replace hg61 := hx62.blk hg61 (fun e => by have e : g8 = g9 := e; omega)
            replace hF := hF.step hx62 (fun k hk hlt => by have hk : k = g9 := hk; omega)
            refine seg 1 [.co [1, 1, 1, 1, 1, 1, 0, 1, 0, 1, 1], .co [1, 1, 1, 1, 1, 1, 1]] [(4, .pointer (some (⟨g8, 0, none⟩))), (5, .pointer (some (⟨g9, 0, none⟩)))] (by kernel_rfl) ?_
            refine retC [.agg #[.slice A m c, .int .i64 a, .int .i64 6], .agg #[.int .u64 0, .slice none 0 0]] (by kernel_rfl) ⟨⟨_, rfl, ldv_agg 66 (⟨g8, 0, none⟩) [.slice A m c, .int .i64 a, .int .i64 6] (by kernel_rfl) (blk_cells hg61 (by rfl))⟩, ⟨_, rfl, ldv_agg 68 (⟨g9, 0, none⟩) [.int .u64 0, .slice none 0 0] (by kernel_rfl) (blk_cells hg62 (by rfl))⟩, trivial⟩ ?_
            have ee : rdE x.Do x.N l a e0 = 6 := by simp [rdE, takeE, textE, numW, hml, h10, h13, h31, h35, hb54]
            rw [ee]
            have ez : (6 : Int) ≠ 0 := by first | assumption | decide
            have ea : rdA x.Do x.N l a 6 = a := by simp [rdA, takeA, textA, ez]
            have ev : rdV x.Do x.N l a 6 = 0 := by simp [rdV, takeL, ez, le]
            have el : rdL x.Do x.N l a 6 = [] := by simp [rdL, takeL, textL, ez]
            rw [ea, ev, el]
            exact ⟨_, rfl, none, 0, rfl, hF, Cs.nil _ _ _ _, Nat.le_refl _⟩

end Go.Proofs.Ytgkiegplmohgkaa.F
