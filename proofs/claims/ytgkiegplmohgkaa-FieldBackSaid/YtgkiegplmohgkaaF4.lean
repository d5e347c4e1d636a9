/- the reference: readers, writers -/
import Derived.Test.YtgkiegplmohgkaaF3
import Derived.Test.YtgkiegplmohgkaaT
set_option linter.unusedVariables false
set_option linter.unusedSimpArgs false
namespace Go.Proofs.Ytgkiegplmohgkaa.F
open Go Go.RowKit Go.Proofs.Ytgkiegplmohgkaa.K
theorem rwrite_c (w : World) (base m c : Nat) (A : Option Addr) {l : List UInt8} (most e0 : Int) (ho : w.ownsRow base 5 1 (.slice A m c) m (bs l)) (hb : base ≤ w.heap.size) (hm : -9223372036854775808 ≤ most ∧ most ≤ 9223372036854775807) (hl : m ≤ 140737400000000) (x : TAct) (hx : TAct.Ok 0 w.heap.size w x) (hB : x.B.l.length ≤ 70000) :
    Calls Try.prog 31 #[.agg #[.slice A m c, .int .i64 most, .int .i64 e0], .agg #[.int .i64 x.Do, .int .i64 x.N, .int .u64 (x.V : Int), .slice x.B.A x.B.l.length x.B.c]] w fun e w' => ∃ v, e = .returned v ∧ (∃ A' c', v = .agg #[.slice A' (addL l (addE (max most 0) l.length e0 (actE1 x.Do x.N x.V x.B.l) (actM x.Do x.N x.B.l)) (actX x.Do x.N x.V x.B.l)).length c', .int .i64 most, .int .i64 (addE (max most 0) l.length e0 (actE1 x.Do x.N x.V x.B.l) (actM x.Do x.N x.B.l))] ∧ Ex w w' ∧ w'.ownsRow base 5 1 (.slice A' (addL l (addE (max most 0) l.length e0 (actE1 x.Do x.N x.V x.B.l) (actM x.Do x.N x.B.l)) (actX x.Do x.N x.V x.B.l)).length c') (addL l (addE (max most 0) l.length e0 (actE1 x.Do x.N x.V x.B.l) (actM x.Do x.N x.B.l)) (actX x.Do x.N x.V x.B.l)).length (bs (addL l (addE (max most 0) l.length e0 (actE1 x.Do x.N x.V x.B.l) (actM x.Do x.N x.B.l)) (actX x.Do x.N x.V x.B.l))) ∧ (∀ k, (Value.slice A' (addL l (addE (max most 0) l.length e0 (actE1 x.Do x.N x.V x.B.l) (actM x.Do x.N x.B.l)) (actX x.Do x.N x.V x.B.l)).length c').ownBlock = some k → (Value.slice A m c).ownBlock = some k ∨ w.heap.size ≤ k)) := by
  refine callsR Try.func31 (by kernel_rfl) (by kernel_rfl) ?_
  have hF : Ex w w := Kp.refl _ _
  have hml : m = l.length := by have := ho.1; rw [bs_length] at this; omega
  have hmx : maxLen = 9223372036854775807 := rfl
  have hlt0 := own_lt ho
  have q2 : -9223372036854775808 ≤ x.Do ∧ x.Do ≤ 9223372036854775807 := hx.Do
  have q3 : -9223372036854775808 ≤ x.N ∧ x.N ≤ 9223372036854775807 := hx.N
  have q4 : x.V < 18446744073709551616 := hx.V
  have q5 : x.B.l.length ≤ x.B.c := Sls.Ok.le hx.B
  have q5m : x.B.c ≤ maxLen := Sls.Ok.max hx.B
  refine seg 2 [.op [0] 0, .co [1]] [(0, .agg #[.slice A m c, .int .i64 most, .int .i64 e0]), (1, .agg #[.int .i64 x.Do, .int .i64 x.N, .int .u64 (x.V : Int), .slice x.B.A x.B.l.length x.B.c])] (by kernel_rfl) ?_
  have hlt6 := own_lt ho
  refine st (newR (some 2) (fun g => .pointer (some ⟨g, 0, none⟩)) (.cells #[.slice A m c, .int .i64 most, .int .i64 e0] 54) (by kernel_rfl) ?_)
  intro g7 w7 hgs7 hx7 hg7 hz7
  replace ho := own_ex ho hx7
  replace hx : TAct.Ok _ _ _ x := Dat.kp (a := x) hx hx7 (fun _ e => e.elim)
  replace hF := hF.ex hx7
  have hlt8 := own_lt ho
  refine st (newR (some 3) (fun g => .pointer (some ⟨g, 0, none⟩)) (.cells #[.int .i64 x.Do, .int .i64 x.N, .int .u64 (x.V : Int), .slice x.B.A x.B.l.length x.B.c] 56) (by kernel_rfl) ?_)
  intro g9 w9 hgs9 hx9 hg9 hz9
  replace ho := own_ex ho hx9
  replace hx : TAct.Ok _ _ _ x := Dat.kp (a := x) hx hx9 (fun _ e => e.elim)
  replace hg7 := hx9.blk hg7 (fun e => e)
  replace hF := hF.ex hx9
  have hlt10 := own_lt ho
  refine st (newR (some 4) (fun g => .pointer (some ⟨g, 0, none⟩)) (.cells #[.slice none 0 0, .int .i64 0, .int .i64 0] 54) (by kernel_rfl) ?_)
  intro g11 w11 hgs11 hx11 hg11 hz11
  replace ho := own_ex ho hx11
  replace hx : TAct.Ok _ _ _ x := Dat.kp (a := x) hx hx11 (fun _ e => e.elim)
  replace hg7 := hx11.blk hg7 (fun e => e)
  replace hg9 := hx11.blk hg9 (fun e => e)
  replace hF := hF.ex hx11
  refine seg 5 [.op [1, 0, 0] 1, .co [1, 0, 1], .co [1, 1]] [(2, .pointer (some (⟨g7, 0, none⟩))), (3, .pointer (some (⟨g9, 0, none⟩))), (4, .pointer (some (⟨g11, 0, none⟩))), (7, .pointer (some (⟨g7, 2, none⟩)))] (by kernel_rfl) ?_
  refine st (ldR (some 8) 3 (⟨g7, 2, none⟩) (.int .i64 e0) (by kernel_rfl) (by kernel_rfl) (blk_cell hg7 rfl) ?_)
  refine seg 2 [.co [1, 0, 1], .co [1, 1]] [(2, .pointer (some (⟨g7, 0, none⟩))), (3, .pointer (some (⟨g9, 0, none⟩))), (4, .pointer (some (⟨g11, 0, none⟩))), (9, .bool (e0 != 0))] (by kernel_rfl) ?_
  rcases bsplit (e0 != 0) with hb12 | hb12
  · rw [hb12]
    have h12 : e0 ≠ 0 := by simpa using hb12
    refine seg 3 [.op [1, 0, 1, 0, 0] 0, .co [1, 0, 1, 0, 1], .co [1, 1]] [(2, .pointer (some (⟨g7, 0, none⟩))), (4, .pointer (some (⟨g11, 0, none⟩)))] (by kernel_rfl) ?_
    refine st (ldAggR (some 10) 54 (⟨g7, 0, none⟩) [.slice A m c, .int .i64 most, .int .i64 e0] (by kernel_rfl) (by kernel_rfl) (blk_cells hg7 (by kernel_rfl)) ?_)
    refine st (stAggR none 54 g11 0 [.slice A m c, .int .i64 most, .int .i64 e0] #[.slice none 0 0, .int .i64 0, .int .i64 0] #[.slice A m c, .int .i64 most, .int .i64 e0] 54 (by kernel_rfl) (by kernel_rfl) (by rfl) hg11 (by simp) (by rfl) ?_)
    intro w13 hx13 hg13 hz13
    replace ho := own_kp ho hx13 (fun k hk (e : k = g11) => by have h1 := own_ge ho hk.symm; first | omega | (have h2 := hlt0 k hk.symm; omega) | (have h2 := hlt6 k hk.symm; omega) | (have h2 := hlt8 k hk.symm; omega) | (have h2 := hlt10 k hk.symm; omega))
    replace hF := hF.step hx13 (fun k hk hlt => by have hk : k = g11 := hk; omega)
    refine seg 1 [.co [1, 0, 1, 0, 1], .co [1, 1]] [(4, .pointer (some (⟨g11, 0, none⟩)))] (by kernel_rfl) ?_
    refine retC [.agg #[.slice A m c, .int .i64 most, .int .i64 e0]] (by kernel_rfl) ⟨⟨_, rfl, ldv_agg 54 (⟨g11, 0, none⟩) [.slice A m c, .int .i64 most, .int .i64 e0] (by kernel_rfl) (blk_cells hg13 (by rfl))⟩, trivial⟩ ?_
    have ee : (addE (max most 0) l.length e0 (actE1 x.Do x.N x.V x.B.l) (actM x.Do x.N x.B.l)) = e0 := by
      rw [← hml]
      simp [addE, actE1, actM, putE, h12]
    rw [ee]
    have ez : (e0 : Int) ≠ 0 := by first | assumption | decide
    have el : addL l (e0) (actX x.Do x.N x.V x.B.l) = l := by simp only [addL, ez, if_false]
    rw [el, ← hml]
    exact ⟨_, rfl, _, _, rfl, hF, ho, fun k hk => .inl hk⟩
  · rw [hb12]
    have h12 : e0 = 0 := by simpa using hb12
    refine seg 10 [.op [1, 1, 1, 0, 0] 1, .co [1, 1, 1, 0, 1], .co [1, 1, 1, 1]] [(2, .pointer (some (⟨g7, 0, none⟩))), (3, .pointer (some (⟨g9, 0, none⟩))), (4, .pointer (some (⟨g11, 0, none⟩))), (11, .pointer (some (⟨g9, 0, none⟩)))] (by kernel_rfl) ?_
    refine st (ldR (some 12) 3 (⟨g9, 0, none⟩) (.int .i64 x.Do) (by kernel_rfl) (by kernel_rfl) (blk_cell hg9 rfl) ?_)
    refine seg 7 [.co [1, 1, 1, 0, 1, 0, 1], .bl 0, .co [1, 1, 1, 1]] [(2, .pointer (some (⟨g7, 0, none⟩))), (3, .pointer (some (⟨g9, 0, none⟩))), (4, .pointer (some (⟨g11, 0, none⟩))), (12, .int .i64 x.Do), (27, .bool (x.Do == 0))] (by kernel_rfl) ?_
    rcases bsplit (x.Do == 0) with hb14 | hb14
    · rw [hb14]
      have h14 : x.Do = 0 := by simpa using hb14
      refine seg 5 [.op [1, 1, 1, 0, 1, 0, 1, 0, 0, 0] 1, .co [1, 1, 1, 0, 1, 0, 1, 0, 0, 1], .co [1, 1, 1, 0, 1, 0, 1, 0, 1], .bl 0, .co [1, 1, 1, 1]] [(2, .pointer (some (⟨g7, 0, none⟩))), (3, .pointer (some (⟨g9, 0, none⟩))), (4, .pointer (some (⟨g11, 0, none⟩))), (29, .pointer (some (⟨g9, 1, none⟩)))] (by kernel_rfl) ?_
      refine st (ldR (some 30) 3 (⟨g9, 1, none⟩) (.int .i64 x.N) (by kernel_rfl) (by kernel_rfl) (blk_cell hg9 rfl) ?_)
      have hlt15 := own_lt ho
      refine st (callR (some 31) 20 #[.int .i64 x.N] Try.call20 (rwidth_c w11 x.N) (by kernel_rfl) ?_)
      rintro _ _ ⟨rfl, rfl⟩
      refine seg 2 [.co [1, 1, 1, 0, 1, 0, 1, 0, 0, 1], .co [1, 1, 1, 0, 1, 0, 1, 0, 1], .bl 0, .co [1, 1, 1, 1]] [(2, .pointer (some (⟨g7, 0, none⟩))), (3, .pointer (some (⟨g9, 0, none⟩))), (4, .pointer (some (⟨g11, 0, none⟩))), (32, .bool (!(wideB x.N)))] (by kernel_rfl) ?_
      rcases bsplit (wideB x.N) with hb16 | hb16
      · rw [hb16]
        have h16 := wide_of hb16
        refine seg 6 [.op [1, 1, 1, 0, 1, 0, 1, 0, 1, 0, 0] 1, .co [1, 1, 1, 0, 1, 0, 1, 0, 1, 0, 1], .co [1, 1, 1, 0, 1, 0, 1, 0, 1, 1], .bl 0, .co [1, 1, 1, 1]] [(2, .pointer (some (⟨g7, 0, none⟩))), (3, .pointer (some (⟨g9, 0, none⟩))), (4, .pointer (some (⟨g11, 0, none⟩))), (35, .pointer (some (⟨g9, 2, none⟩)))] (by kernel_rfl) ?_
        refine st (ldR (some 36) 24 (⟨g9, 2, none⟩) (.int .u64 (x.V : Int)) (by kernel_rfl) (by kernel_rfl) (blk_cell hg9 rfl) ?_)
        refine seg 1 [.op [1, 1, 1, 0, 1, 0, 1, 0, 1, 0, 0] 3, .co [1, 1, 1, 0, 1, 0, 1, 0, 1, 0, 1], .co [1, 1, 1, 0, 1, 0, 1, 0, 1, 1], .bl 0, .co [1, 1, 1, 1]] [(2, .pointer (some (⟨g7, 0, none⟩))), (3, .pointer (some (⟨g9, 0, none⟩))), (4, .pointer (some (⟨g11, 0, none⟩))), (36, .int .u64 (x.V : Int)), (37, .pointer (some (⟨g9, 1, none⟩)))] (by kernel_rfl) ?_
        refine st (ldR (some 38) 3 (⟨g9, 1, none⟩) (.int .i64 x.N) (by kernel_rfl) (by kernel_rfl) (blk_cell hg9 rfl) ?_)
        have hlt17 := own_lt ho
        refine st (callR (some 39) 21 #[.int .u64 (x.V : Int), .int .i64 x.N] Try.call21 (rfits_c w11 x.V x.N (by omega) (by omega)) (by kernel_rfl) ?_)
        rintro _ _ ⟨rfl, rfl⟩
        refine seg 2 [.co [1, 1, 1, 0, 1, 0, 1, 0, 1, 0, 1], .co [1, 1, 1, 0, 1, 0, 1, 0, 1, 1], .bl 0, .co [1, 1, 1, 1]] [(2, .pointer (some (⟨g7, 0, none⟩))), (3, .pointer (some (⟨g9, 0, none⟩))), (4, .pointer (some (⟨g11, 0, none⟩))), (40, .bool (!(fitsB x.V (x.N).toNat)))] (by kernel_rfl) ?_
        rcases bsplit (fitsB x.V (x.N).toNat) with hb18 | hb18
        · rw [hb18]
          refine seg 4 [.op [1, 1, 1, 0, 1, 0, 1, 0, 1, 1] 1, .bl 0, .co [1, 1, 1, 1]] [(2, .pointer (some (⟨g7, 0, none⟩))), (3, .pointer (some (⟨g9, 0, none⟩))), (4, .pointer (some (⟨g11, 0, none⟩))), (43, .pointer (some (⟨g9, 2, none⟩)))] (by kernel_rfl) ?_
          refine st (ldR (some 44) 24 (⟨g9, 2, none⟩) (.int .u64 (x.V : Int)) (by kernel_rfl) (by kernel_rfl) (blk_cell hg9 rfl) ?_)
          refine seg 1 [.op [1, 1, 1, 0, 1, 0, 1, 0, 1, 1] 3, .bl 0, .co [1, 1, 1, 1]] [(2, .pointer (some (⟨g7, 0, none⟩))), (4, .pointer (some (⟨g11, 0, none⟩))), (44, .int .u64 (x.V : Int)), (45, .pointer (some (⟨g9, 1, none⟩)))] (by kernel_rfl) ?_
          refine st (ldR (some 46) 3 (⟨g9, 1, none⟩) (.int .i64 x.N) (by kernel_rfl) (by kernel_rfl) (blk_cell hg9 rfl) ?_)
          have hlt20 := own_lt ho
          refine st (callR (some 47) 22 #[.int .u64 (x.V : Int), .int .i64 x.N] Try.call22 (rstore_c w11 x.V (by omega) x.N (by omega) (by omega)) (by kernel_rfl) ?_)
          rintro _ w19 ⟨A19, c19, rfl, hx19, hn19⟩
          have hz19 := hx19.size
          have hc19 := own_cap hn19
          replace ho := own_ex ho hx19
          replace hx : TAct.Ok _ _ _ x := Dat.kp (a := x) hx hx19 (fun _ e => e.elim)
          replace hg7 := hx19.blk hg7 (fun e => e)
          replace hg11 := hx19.blk hg11 (fun e => e)
          replace hF := hF.ex hx19
          refine seg 6 [.op [1, 1, 1, 1, 0] 1, .co [1, 1, 1, 1, 1]] [(2, .pointer (some (⟨g7, 0, none⟩))), (4, .pointer (some (⟨g11, 0, none⟩))), (5, .slice A19 ((x.N).toNat) c19), (52, .pointer (some (⟨g7, 1, none⟩)))] (by kernel_rfl) ?_
          refine st (ldR (some 53) 3 (⟨g7, 1, none⟩) (.int .i64 most) (by kernel_rfl) (by kernel_rfl) (blk_cell hg7 rfl) ?_)
          refine seg 8 [.co [1, 1, 1, 1, 1, 0, 1], .co [1, 1, 1, 1, 1, 1]] [(2, .pointer (some (⟨g7, 0, none⟩))), (4, .pointer (some (⟨g11, 0, none⟩))), (5, .slice A19 ((x.N).toNat) c19), (6, .int .i64 most), (55, .bool (decide (most < 0)))] (by kernel_rfl) ?_
          rcases bsplit (decide (most < 0)) with hb21 | hb21
          · rw [hb21]
            have h21 := of_decide_eq_true hb21
            refine seg 11 [.op [1, 1, 1, 1, 1, 1, 0, 0] 4, .co [1, 1, 1, 1, 1, 1, 0, 1], .co [1, 1, 1, 1, 1, 1, 1]] [(2, .pointer (some (⟨g7, 0, none⟩))), (4, .pointer (some (⟨g11, 0, none⟩))), (5, .slice A19 ((x.N).toNat) c19), (57, .int .i64 ((x.N).toNat : Int)), (58, .int .i64 0), (59, .pointer (some (⟨g7, 0, none⟩)))] (by kernel_rfl) ?_
            refine st (ldR (some 60) 22 (⟨g7, 0, none⟩) (.slice A m c) (by kernel_rfl) (by kernel_rfl) (blk_cell hg7 rfl) ?_)
            refine seg 4 [.co [1, 1, 1, 1, 1, 1, 0, 1], .co [1, 1, 1, 1, 1, 1, 1]] [(2, .pointer (some (⟨g7, 0, none⟩))), (4, .pointer (some (⟨g11, 0, none⟩))), (5, .slice A19 ((x.N).toNat) c19), (63, .bool (decide (((x.N).toNat : Int) > (IntKind.i64.wrap (0 - (m : Int))))))] (by kernel_rfl) ?_
            rw [show IntKind.i64.wrap (0 - (m : Int)) = (0 - (m : Int)) from w64 (by omega)]
            rcases bsplit (decide (((x.N).toNat : Int) > (0 - (m : Int)))) with hb22 | hb22
            · rw [hb22]
              have h22 := of_decide_eq_true hb22
              refine seg 4 [.op [1, 1, 1, 1, 1, 1, 0, 1, 0, 0] 1, .co [1, 1, 1, 1, 1, 1, 0, 1, 0, 1], .co [1, 1, 1, 1, 1, 1, 1]] [(2, .pointer (some (⟨g7, 0, none⟩))), (4, .pointer (some (⟨g11, 0, none⟩))), (64, .pointer (some (⟨g7, 2, none⟩)))] (by kernel_rfl) ?_
              refine st (stR none 3 g7 2 (.int .i64 2) #[.slice A m c, .int .i64 most, .int .i64 e0] 54 (by kernel_rfl) (by kernel_rfl) rfl hg7 (by simp) ?_)
              intro w23 hx23 hg23 hz23
              replace ho := own_kp ho hx23 (fun k hk (e : k = g7) => by have h1 := own_ge ho hk.symm; first | omega | (have h2 := hlt0 k hk.symm; omega) | (have h2 := hlt6 k hk.symm; omega) | (have h2 := hlt8 k hk.symm; omega) | (have h2 := hlt10 k hk.symm; omega) | (have h2 := hlt15 k hk.symm; omega) | (have h2 := hlt17 k hk.symm; omega) | (have h2 := hlt20 k hk.symm; omega))
              replace hg11 := hx23.blk hg11 (fun e => by have e : g11 = g7 := e; omega)
              replace hF := hF.step hx23 (fun k hk hlt => by have hk : k = g7 := hk; omega)
              replace hg23 : w23.heap[g7]? = some (.cells #[.slice A m c, .int .i64 most, .int .i64 2] 54 (0, 0)) := hg23
              refine seg 3 [.op [1, 1, 1, 1, 1, 1, 0, 1, 0, 1, 0] 0, .co [1, 1, 1, 1, 1, 1, 0, 1, 0, 1, 1], .co [1, 1, 1, 1, 1, 1, 1]] [(2, .pointer (some (⟨g7, 0, none⟩))), (4, .pointer (some (⟨g11, 0, none⟩)))] (by kernel_rfl) ?_
              refine st (ldAggR (some 65) 54 (⟨g7, 0, none⟩) [.slice A m c, .int .i64 most, .int .i64 2] (by kernel_rfl) (by kernel_rfl) (blk_cells hg23 (by kernel_rfl)) ?_)
              refine st (stAggR none 54 g11 0 [.slice A m c, .int .i64 most, .int .i64 2] #[.slice none 0 0, .int .i64 0, .int .i64 0] #[.slice A m c, .int .i64 most, .int .i64 2] 54 (by kernel_rfl) (by kernel_rfl) (by rfl) hg11 (by simp) (by rfl) ?_)
              intro w24 hx24 hg24 hz24
              replace ho := own_kp ho hx24 (fun k hk (e : k = g11) => by have h1 := own_ge ho hk.symm; first | omega | (have h2 := hlt0 k hk.symm; omega) | (have h2 := hlt6 k hk.symm; omega) | (have h2 := hlt8 k hk.symm; omega) | (have h2 := hlt10 k hk.symm; omega) | (have h2 := hlt15 k hk.symm; omega) | (have h2 := hlt17 k hk.symm; omega) | (have h2 := hlt20 k hk.symm; omega))
              replace hF := hF.step hx24 (fun k hk hlt => by have hk : k = g11 := hk; omega)
              refine seg 1 [.co [1, 1, 1, 1, 1, 1, 0, 1, 0, 1, 1], .co [1, 1, 1, 1, 1, 1, 1]] [(4, .pointer (some (⟨g11, 0, none⟩)))] (by kernel_rfl) ?_
              refine retC [.agg #[.slice A m c, .int .i64 most, .int .i64 2]] (by kernel_rfl) ⟨⟨_, rfl, ldv_agg 54 (⟨g11, 0, none⟩) [.slice A m c, .int .i64 most, .int .i64 2] (by kernel_rfl) (blk_cells hg24 (by rfl))⟩, trivial⟩ ?_
              have ee : (addE (max most 0) l.length e0 (actE1 x.Do x.N x.V x.B.l) (actM x.Do x.N x.B.l)) = 2 := by
                rw [← hml]
                simp [addE, actE1, actM, putE, h12, h14, hb16, hb18, h21, h22] <;> omega
              rw [ee]
              have ez : (2 : Int) ≠ 0 := by first | assumption | decide
              have el : addL l (2) (actX x.Do x.N x.V x.B.l) = l := by simp only [addL, ez, if_false]
              rw [el, ← hml]
              exact ⟨_, rfl, _, _, rfl, hF, ho, fun k hk => .inl hk⟩
            · rw [hb22]
              have h22 := of_decide_eq_false hb22
              refine seg 4 [.op [1, 1, 1, 1, 1, 1, 1, 0] 0, .co [1, 1, 1, 1, 1, 1, 1, 1]] [(2, .pointer (some (⟨g7, 0, none⟩))), (4, .pointer (some (⟨g11, 0, none⟩))), (5, .slice A19 ((x.N).toNat) c19)] (by kernel_rfl) ?_
              have hlt25 := own_lt ho
              have hlt26 := own_lt hn19
              refine st (newR (some 66) (fun g => .slice (some ⟨g, 0, none⟩) 0 0) (.cells #[] 5) (by kernel_rfl) ?_)
              intro g27 w27 hgs27 hx27 hg27 hz27
              replace ho := own_ex ho hx27
              replace hn19 := own_ex hn19 hx27
              replace hx : TAct.Ok _ _ _ x := Dat.kp (a := x) hx hx27 (fun _ e => e.elim)
              replace hg7 := hx27.blk hg7 (fun e => e)
              replace hg11 := hx27.blk hg11 (fun e => e)
              replace hF := hF.ex hx27
              refine seg 1 [.op [1, 1, 1, 1, 1, 1, 1, 0] 2, .co [1, 1, 1, 1, 1, 1, 1, 1]] [(2, .pointer (some (⟨g7, 0, none⟩))), (4, .pointer (some (⟨g11, 0, none⟩))), (5, .slice A19 ((x.N).toNat) c19), (66, .slice (some ⟨g27, 0, none⟩) 0 0), (67, .pointer (some (⟨g7, 0, none⟩)))] (by kernel_rfl) ?_
              refine st (ldR (some 68) 22 (⟨g7, 0, none⟩) (.slice A m c) (by kernel_rfl) (by kernel_rfl) (blk_cell hg7 rfl) ?_)
              have ho28 := own_of_blk (base := g27) (n := 0) (sz := 1) hg27 (by omega) (by simp [maxLen]) (by simp)
              refine st (appR (some 69) 22 5 1 1 (.int .u8 0) 22 g27 (some ⟨g27, 0, none⟩) A 0 0 m c ([]) (bs l) ⟨Try.underlying22, by kernel_rfl⟩ rfl (by decide) (by kernel_rfl) ho28 (Cs.of_own ho) (by first | (have := ho.1; omega) | (rw [bs_length]; omega)) (bs_one _) (by omega) (by decide) (by omega) ?_)
              intro A29 c29 w29 hn29 hx29 hb29 hc29 hz29
              replace ho := own_kp ho hx29 (fun k hk e => by have h1 := own_ge ho hk.symm; first | (have h2 := own_ge ho28 e; omega) | (have h2 := own_ge ho28 e; have h3 := hlt0 k hk.symm; omega) | (have h2 := own_ge ho28 e; have h3 := hlt6 k hk.symm; omega) | (have h2 := own_ge ho28 e; have h3 := hlt8 k hk.symm; omega) | (have h2 := own_ge ho28 e; have h3 := hlt10 k hk.symm; omega) | (have h2 := own_ge ho28 e; have h3 := hlt15 k hk.symm; omega) | (have h2 := own_ge ho28 e; have h3 := hlt17 k hk.symm; omega) | (have h2 := own_ge ho28 e; have h3 := hlt20 k hk.symm; omega) | (have h2 := own_ge ho28 e; have h3 := hlt25 k hk.symm; omega))
              replace hn19 := own_kp hn19 hx29 (fun k hk e => by have h1 := own_ge hn19 hk.symm; first | (have h2 := own_ge ho28 e; omega) | (have h2 := own_ge ho28 e; have h3 := hlt26 k hk.symm; omega))
              replace hx : TAct.Ok _ _ _ x := Dat.kp (a := x) hx hx29 (fun k hk => by first | exact .inr (by have := own_ge ho28 hk; omega))
              replace hg7 := hx29.blk hg7 (fun e => by first | (have := own_ge ho28 e; omega))
              replace hg11 := hx29.blk hg11 (fun e => by first | (have := own_ge ho28 e; omega))
              replace hF := hF.step hx29 (fun k hk hlt => absurd (own_ge ho28 hk) (by omega))
              rw [List.nil_append] at hn29
              rw [Nat.zero_add] at hn29 hc29 ⊢
              refine seg 1 [.op [1, 1, 1, 1, 1, 1, 1, 0] 5, .co [1, 1, 1, 1, 1, 1, 1, 1]] [(2, .pointer (some (⟨g7, 0, none⟩))), (4, .pointer (some (⟨g11, 0, none⟩))), (69, .slice A29 m c29), (70, .slice A19 ((x.N).toNat) c19)] (by kernel_rfl) ?_
              refine st (appR (some 71) 22 5 1 1 (.int .u8 0) 22 g27 A29 A19 m c29 ((x.N).toNat) c19 (bs l) (bs (enc ((x.N).toNat) x.V)) ⟨Try.underlying22, by kernel_rfl⟩ rfl (by decide) (by kernel_rfl) hn29 (Cs.of_own hn19) (by first | (have := hn19.1; omega) | (rw [bs_length]; omega)) (bs_one _) (by omega) (by decide) (by omega) ?_)
              intro A30 c30 w30 hn30 hx30 hb30 hc30 hz30
              replace ho := own_kp ho hx30 (fun k hk e => by have h1 := own_ge ho hk.symm; first | (have h2 := own_ge hn29 e; omega) | (have h2 := own_ge hn29 e; have h3 := hlt0 k hk.symm; omega) | (have h2 := own_ge hn29 e; have h3 := hlt6 k hk.symm; omega) | (have h2 := own_ge hn29 e; have h3 := hlt8 k hk.symm; omega) | (have h2 := own_ge hn29 e; have h3 := hlt10 k hk.symm; omega) | (have h2 := own_ge hn29 e; have h3 := hlt15 k hk.symm; omega) | (have h2 := own_ge hn29 e; have h3 := hlt17 k hk.symm; omega) | (have h2 := own_ge hn29 e; have h3 := hlt20 k hk.symm; omega) | (have h2 := own_ge hn29 e; have h3 := hlt25 k hk.symm; omega))
              replace hg7 := hx30.blk hg7 (fun e => by first | (have := own_ge hn29 e; omega))
              replace hg11 := hx30.blk hg11 (fun e => by first | (have := own_ge hn29 e; omega))
              replace hF := hF.step hx30 (fun k hk hlt => absurd (own_ge hn29 hk) (by omega))
              rw [← bs_append] at hn30
              refine seg 1 [.op [1, 1, 1, 1, 1, 1, 1, 0] 7, .co [1, 1, 1, 1, 1, 1, 1, 1]] [(2, .pointer (some (⟨g7, 0, none⟩))), (4, .pointer (some (⟨g11, 0, none⟩))), (71, .slice A30 (m + ((x.N).toNat)) c30), (72, .pointer (some (⟨g7, 0, none⟩)))] (by kernel_rfl) ?_
              refine st (stR none 22 g7 0 (.slice A30 (m + ((x.N).toNat)) c30) #[.slice A m c, .int .i64 most, .int .i64 e0] 54 (by kernel_rfl) (by kernel_rfl) rfl hg7 (by simp) ?_)
              intro w31 hx31 hg31 hz31
              replace ho := own_kp ho hx31 (fun k hk (e : k = g7) => by have h1 := own_ge ho hk.symm; first | omega | (have h2 := hlt0 k hk.symm; omega) | (have h2 := hlt6 k hk.symm; omega) | (have h2 := hlt8 k hk.symm; omega) | (have h2 := hlt10 k hk.symm; omega) | (have h2 := hlt15 k hk.symm; omega) | (have h2 := hlt17 k hk.symm; omega) | (have h2 := hlt20 k hk.symm; omega) | (have h2 := hlt25 k hk.symm; omega))
              replace hn30 := own_kp hn30 hx31 (fun k hk (e : k = g7) => by have h1 := own_ge hn30 hk.symm; first | omega)
              replace hg11 := hx31.blk hg11 (fun e => by have e : g11 = g7 := e; omega)
              replace hF := hF.step hx31 (fun k hk hlt => by have hk : k = g7 := hk; omega)
              replace hg31 : w31.heap[g7]? = some (.cells #[.slice A30 (m + ((x.N).toNat)) c30, .int .i64 most, .int .i64 e0] 54 (0, 0)) := hg31
              refine seg 3 [.op [1, 1, 1, 1, 1, 1, 1, 1, 0] 0, .co [1, 1, 1, 1, 1, 1, 1, 1, 1]] [(2, .pointer (some (⟨g7, 0, none⟩))), (4, .pointer (some (⟨g11, 0, none⟩)))] (by kernel_rfl) ?_
              refine st (ldAggR (some 73) 54 (⟨g7, 0, none⟩) [.slice A30 (m + ((x.N).toNat)) c30, .int .i64 most, .int .i64 e0] (by kernel_rfl) (by kernel_rfl) (blk_cells hg31 (by kernel_rfl)) ?_)
              refine st (stAggR none 54 g11 0 [.slice A30 (m + ((x.N).toNat)) c30, .int .i64 most, .int .i64 e0] #[.slice none 0 0, .int .i64 0, .int .i64 0] #[.slice A30 (m + ((x.N).toNat)) c30, .int .i64 most, .int .i64 e0] 54 (by kernel_rfl) (by kernel_rfl) (by rfl) hg11 (by simp) (by rfl) ?_)
              intro w32 hx32 hg32 hz32
              replace ho := own_kp ho hx32 (fun k hk (e : k = g11) => by have h1 := own_ge ho hk.symm; first | omega | (have h2 := hlt0 k hk.symm; omega) | (have h2 := hlt6 k hk.symm; omega) | (have h2 := hlt8 k hk.symm; omega) | (have h2 := hlt10 k hk.symm; omega) | (have h2 := hlt15 k hk.symm; omega) | (have h2 := hlt17 k hk.symm; omega) | (have h2 := hlt20 k hk.symm; omega) | (have h2 := hlt25 k hk.symm; omega))
              replace hn30 := own_kp hn30 hx32 (fun k hk (e : k = g11) => by have h1 := own_ge hn30 hk.symm; first | omega)
              replace hF := hF.step hx32 (fun k hk hlt => by have hk : k = g11 := hk; omega)
              refine seg 1 [.co [1, 1, 1, 1, 1, 1, 1, 1, 1]] [(4, .pointer (some (⟨g11, 0, none⟩)))] (by kernel_rfl) ?_
              refine retC [.agg #[.slice A30 (m + ((x.N).toNat)) c30, .int .i64 most, .int .i64 e0]] (by kernel_rfl) ⟨⟨_, rfl, ldv_agg 54 (⟨g11, 0, none⟩) [.slice A30 (m + ((x.N).toNat)) c30, .int .i64 most, .int .i64 e0] (by kernel_rfl) (blk_cells hg32 (by rfl))⟩, trivial⟩ ?_
              have ee : (addE (max most 0) l.length e0 (actE1 x.Do x.N x.V x.B.l) (actM x.Do x.N x.B.l)) = e0 := by
                rw [← hml]
                simp [addE, actE1, actM, putE, h12, h14, hb16, hb18, h21, h22] <;> omega
              rw [ee]
              obtain rfl : e0 = 0 := h12
              have hfin := hn30
              have ex : addL l 0 (actX x.Do x.N x.V x.B.l) = l ++ (enc ((x.N).toNat) x.V) := by simp [addL, actX, h14]
              rw [ex]
              have el : (l ++ (enc ((x.N).toNat) x.V)).length = m + ((x.N).toNat) := by simp only [List.length_append, enc_length] at *; omega
              rw [el]
              exact ⟨_, rfl, _, _, rfl, hF, own_base' hfin (by omega), fun k hk => .inr (by have := own_ge hfin hk.symm; omega)⟩
          · rw [hb21]
            have h21 := of_decide_eq_false hb21
            refine seg 9 [.op [1, 1, 1, 1, 1, 1, 0, 0] 4, .co [1, 1, 1, 1, 1, 1, 0, 1], .co [1, 1, 1, 1, 1, 1, 1]] [(2, .pointer (some (⟨g7, 0, none⟩))), (4, .pointer (some (⟨g11, 0, none⟩))), (5, .slice A19 ((x.N).toNat) c19), (57, .int .i64 ((x.N).toNat : Int)), (58, .int .i64 most), (59, .pointer (some (⟨g7, 0, none⟩)))] (by kernel_rfl) ?_
            refine st (ldR (some 60) 22 (⟨g7, 0, none⟩) (.slice A m c) (by kernel_rfl) (by kernel_rfl) (blk_cell hg7 rfl) ?_)
            refine seg 4 [.co [1, 1, 1, 1, 1, 1, 0, 1], .co [1, 1, 1, 1, 1, 1, 1]] [(2, .pointer (some (⟨g7, 0, none⟩))), (4, .pointer (some (⟨g11, 0, none⟩))), (5, .slice A19 ((x.N).toNat) c19), (63, .bool (decide (((x.N).toNat : Int) > (IntKind.i64.wrap (most - (m : Int))))))] (by kernel_rfl) ?_
            rw [show IntKind.i64.wrap (most - (m : Int)) = (most - (m : Int)) from w64 (by omega)]
            rcases bsplit (decide (((x.N).toNat : Int) > (most - (m : Int)))) with hb33 | hb33
            · rw [hb33]
              have h33 := of_decide_eq_true hb33
              refine seg 4 [.op [1, 1, 1, 1, 1, 1, 0, 1, 0, 0] 1, .co [1, 1, 1, 1, 1, 1, 0, 1, 0, 1], .co [1, 1, 1, 1, 1, 1, 1]] [(2, .pointer (some (⟨g7, 0, none⟩))), (4, .pointer (some (⟨g11, 0, none⟩))), (64, .pointer (some (⟨g7, 2, none⟩)))] (by kernel_rfl) ?_
              refine st (stR none 3 g7 2 (.int .i64 2) #[.slice A m c, .int .i64 most, .int .i64 e0] 54 (by kernel_rfl) (by kernel_rfl) rfl hg7 (by simp) ?_)
              intro w34 hx34 hg34 hz34
              replace ho := own_kp ho hx34 (fun k hk (e : k = g7) => by have h1 := own_ge ho hk.symm; first | omega | (have h2 := hlt0 k hk.symm; omega) | (have h2 := hlt6 k hk.symm; omega) | (have h2 := hlt8 k hk.symm; omega) | (have h2 := hlt10 k hk.symm; omega) | (have h2 := hlt15 k hk.symm; omega) | (have h2 := hlt17 k hk.symm; omega) | (have h2 := hlt20 k hk.symm; omega))
              replace hg11 := hx34.blk hg11 (fun e => by have e : g11 = g7 := e; omega)
              replace hF := hF.step hx34 (fun k hk hlt => by have hk : k = g7 := hk; omega)
              replace hg34 : w34.heap[g7]? = some (.cells #[.slice A m c, .int .i64 most, .int .i64 2] 54 (0, 0)) := hg34
              refine seg 3 [.op [1, 1, 1, 1, 1, 1, 0, 1, 0, 1, 0] 0, .co [1, 1, 1, 1, 1, 1, 0, 1, 0, 1, 1], .co [1, 1, 1, 1, 1, 1, 1]] [(2, .pointer (some (⟨g7, 0, none⟩))), (4, .pointer (some (⟨g11, 0, none⟩)))] (by kernel_rfl) ?_
              refine st (ldAggR (some 65) 54 (⟨g7, 0, none⟩) [.slice A m c, .int .i64 most, .int .i64 2] (by kernel_rfl) (by kernel_rfl) (blk_cells hg34 (by kernel_rfl)) ?_)
              refine st (stAggR none 54 g11 0 [.slice A m c, .int .i64 most, .int .i64 2] #[.slice none 0 0, .int .i64 0, .int .i64 0] #[.slice A m c, .int .i64 most, .int .i64 2] 54 (by kernel_rfl) (by kernel_rfl) (by rfl) hg11 (by simp) (by rfl) ?_)
              intro w35 hx35 hg35 hz35
              replace ho := own_kp ho hx35 (fun k hk (e : k = g11) => by have h1 := own_ge ho hk.symm; first | omega | (have h2 := hlt0 k hk.symm; omega) | (have h2 := hlt6 k hk.symm; omega) | (have h2 := hlt8 k hk.symm; omega) | (have h2 := hlt10 k hk.symm; omega) | (have h2 := hlt15 k hk.symm; omega) | (have h2 := hlt17 k hk.symm; omega) | (have h2 := hlt20 k hk.symm; omega))
              replace hF := hF.step hx35 (fun k hk hlt => by have hk : k = g11 := hk; omega)
              refine seg 1 [.co [1, 1, 1, 1, 1, 1, 0, 1, 0, 1, 1], .co [1, 1, 1, 1, 1, 1, 1]] [(4, .pointer (some (⟨g11, 0, none⟩)))] (by kernel_rfl) ?_
              refine retC [.agg #[.slice A m c, .int .i64 most, .int .i64 2]] (by kernel_rfl) ⟨⟨_, rfl, ldv_agg 54 (⟨g11, 0, none⟩) [.slice A m c, .int .i64 most, .int .i64 2] (by kernel_rfl) (blk_cells hg35 (by rfl))⟩, trivial⟩ ?_
              have ee : (addE (max most 0) l.length e0 (actE1 x.Do x.N x.V x.B.l) (actM x.Do x.N x.B.l)) = 2 := by
                rw [← hml]
                simp [addE, actE1, actM, putE, h12, h14, hb16, hb18, h21, h33] <;> omega
              rw [ee]
              have ez : (2 : Int) ≠ 0 := by first | assumption | decide
              have el : addL l (2) (actX x.Do x.N x.V x.B.l) = l := by simp only [addL, ez, if_false]
              rw [el, ← hml]
              exact ⟨_, rfl, _, _, rfl, hF, ho, fun k hk => .inl hk⟩
            · rw [hb33]
              have h33 := of_decide_eq_false hb33
              refine seg 4 [.op [1, 1, 1, 1, 1, 1, 1, 0] 0, .co [1, 1, 1, 1, 1, 1, 1, 1]] [(2, .pointer (some (⟨g7, 0, none⟩))), (4, .pointer (some (⟨g11, 0, none⟩))), (5, .slice A19 ((x.N).toNat) c19)] (by kernel_rfl) ?_
              have hlt36 := own_lt ho
              have hlt37 := own_lt hn19
              refine st (newR (some 66) (fun g => .slice (some ⟨g, 0, none⟩) 0 0) (.cells #[] 5) (by kernel_rfl) ?_)
              intro g38 w38 hgs38 hx38 hg38 hz38
              replace ho := own_ex ho hx38
              replace hn19 := own_ex hn19 hx38
              replace hx : TAct.Ok _ _ _ x := Dat.kp (a := x) hx hx38 (fun _ e => e.elim)
              replace hg7 := hx38.blk hg7 (fun e => e)
              replace hg11 := hx38.blk hg11 (fun e => e)
              replace hF := hF.ex hx38
              refine seg 1 [.op [1, 1, 1, 1, 1, 1, 1, 0] 2, .co [1, 1, 1, 1, 1, 1, 1, 1]] [(2, .pointer (some (⟨g7, 0, none⟩))), (4, .pointer (some (⟨g11, 0, none⟩))), (5, .slice A19 ((x.N).toNat) c19), (66, .slice (some ⟨g38, 0, none⟩) 0 0), (67, .pointer (some (⟨g7, 0, none⟩)))] (by kernel_rfl) ?_
              refine st (ldR (some 68) 22 (⟨g7, 0, none⟩) (.slice A m c) (by kernel_rfl) (by kernel_rfl) (blk_cell hg7 rfl) ?_)
              have ho39 := own_of_blk (base := g38) (n := 0) (sz := 1) hg38 (by omega) (by simp [maxLen]) (by simp)
              refine st (appR (some 69) 22 5 1 1 (.int .u8 0) 22 g38 (some ⟨g38, 0, none⟩) A 0 0 m c ([]) (bs l) ⟨Try.underlying22, by kernel_rfl⟩ rfl (by decide) (by kernel_rfl) ho39 (Cs.of_own ho) (by first | (have := ho.1; omega) | (rw [bs_length]; omega)) (bs_one _) (by omega) (by decide) (by omega) ?_)
              intro A40 c40 w40 hn40 hx40 hb40 hc40 hz40
              replace ho := own_kp ho hx40 (fun k hk e => by have h1 := own_ge ho hk.symm; first | (have h2 := own_ge ho39 e; omega) | (have h2 := own_ge ho39 e; have h3 := hlt0 k hk.symm; omega) | (have h2 := own_ge ho39 e; have h3 := hlt6 k hk.symm; omega) | (have h2 := own_ge ho39 e; have h3 := hlt8 k hk.symm; omega) | (have h2 := own_ge ho39 e; have h3 := hlt10 k hk.symm; omega) | (have h2 := own_ge ho39 e; have h3 := hlt15 k hk.symm; omega) | (have h2 := own_ge ho39 e; have h3 := hlt17 k hk.symm; omega) | (have h2 := own_ge ho39 e; have h3 := hlt20 k hk.symm; omega) | (have h2 := own_ge ho39 e; have h3 := hlt36 k hk.symm; omega))
              replace hn19 := own_kp hn19 hx40 (fun k hk e => by have h1 := own_ge hn19 hk.symm; first | (have h2 := own_ge ho39 e; omega) | (have h2 := own_ge ho39 e; have h3 := hlt37 k hk.symm; omega))
              replace hx : TAct.Ok _ _ _ x := Dat.kp (a := x) hx hx40 (fun k hk => by first | exact .inr (by have := own_ge ho39 hk; omega))
              replace hg7 := hx40.blk hg7 (fun e => by first | (have := own_ge ho39 e; omega))
              replace hg11 := hx40.blk hg11 (fun e => by first | (have := own_ge ho39 e; omega))
              replace hF := hF.step hx40 (fun k hk hlt => absurd (own_ge ho39 hk) (by omega))
              rw [List.nil_append] at hn40
              rw [Nat.zero_add] at hn40 hc40 ⊢
              refine seg 1 [.op [1, 1, 1, 1, 1, 1, 1, 0] 5, .co [1, 1, 1, 1, 1, 1, 1, 1]] [(2, .pointer (some (⟨g7, 0, none⟩))), (4, .pointer (some (⟨g11, 0, none⟩))), (69, .slice A40 m c40), (70, .slice A19 ((x.N).toNat) c19)] (by kernel_rfl) ?_
              refine st (appR (some 71) 22 5 1 1 (.int .u8 0) 22 g38 A40 A19 m c40 ((x.N).toNat) c19 (bs l) (bs (enc ((x.N).toNat) x.V)) ⟨Try.underlying22, by kernel_rfl⟩ rfl (by decide) (by kernel_rfl) hn40 (Cs.of_own hn19) (by first | (have := hn19.1; omega) | (rw [bs_length]; omega)) (bs_one _) (by omega) (by decide) (by omega) ?_)
              intro A41 c41 w41 hn41 hx41 hb41 hc41 hz41
              replace ho := own_kp ho hx41 (fun k hk e => by have h1 := own_ge ho hk.symm; first | (have h2 := own_ge hn40 e; omega) | (have h2 := own_ge hn40 e; have h3 := hlt0 k hk.symm; omega) | (have h2 := own_ge hn40 e; have h3 := hlt6 k hk.symm; omega) | (have h2 := own_ge hn40 e; have h3 := hlt8 k hk.symm; omega) | (have h2 := own_ge hn40 e; have h3 := hlt10 k hk.symm; omega) | (have h2 := own_ge hn40 e; have h3 := hlt15 k hk.symm; omega) | (have h2 := own_ge hn40 e; have h3 := hlt17 k hk.symm; omega) | (have h2 := own_ge hn40 e; have h3 := hlt20 k hk.symm; omega) | (have h2 := own_ge hn40 e; have h3 := hlt36 k hk.symm; omega))
              replace hg7 := hx41.blk hg7 (fun e => by first | (have := own_ge hn40 e; omega))
              replace hg11 := hx41.blk hg11 (fun e => by first | (have := own_ge hn40 e; omega))
              replace hF := hF.step hx41 (fun k hk hlt => absurd (own_ge hn40 hk) (by omega))
              rw [← bs_append] at hn41
              refine seg 1 [.op [1, 1, 1, 1, 1, 1, 1, 0] 7, .co [1, 1, 1, 1, 1, 1, 1, 1]] [(2, .pointer (some (⟨g7, 0, none⟩))), (4, .pointer (some (⟨g11, 0, none⟩))), (71, .slice A41 (m + ((x.N).toNat)) c41), (72, .pointer (some (⟨g7, 0, none⟩)))] (by kernel_rfl) ?_
              refine st (stR none 22 g7 0 (.slice A41 (m + ((x.N).toNat)) c41) #[.slice A m c, .int .i64 most, .int .i64 e0] 54 (by kernel_rfl) (by kernel_rfl) rfl hg7 (by simp) ?_)
              intro w42 hx42 hg42 hz42
              replace ho := own_kp ho hx42 (fun k hk (e : k = g7) => by have h1 := own_ge ho hk.symm; first | omega | (have h2 := hlt0 k hk.symm; omega) | (have h2 := hlt6 k hk.symm; omega) | (have h2 := hlt8 k hk.symm; omega) | (have h2 := hlt10 k hk.symm; omega) | (have h2 := hlt15 k hk.symm; omega) | (have h2 := hlt17 k hk.symm; omega) | (have h2 := hlt20 k hk.symm; omega) | (have h2 := hlt36 k hk.symm; omega))
              replace hn41 := own_kp hn41 hx42 (fun k hk (e : k = g7) => by have h1 := own_ge hn41 hk.symm; first | omega)
              replace hg11 := hx42.blk hg11 (fun e => by have e : g11 = g7 := e; omega)
              replace hF := hF.step hx42 (fun k hk hlt => by have hk : k = g7 := hk; omega)
              replace hg42 : w42.heap[g7]? = some (.cells #[.slice A41 (m + ((x.N).toNat)) c41, .int .i64 most, .int .i64 e0] 54 (0, 0)) := hg42
              refine seg 3 [.op [1, 1, 1, 1, 1, 1, 1, 1, 0] 0, .co [1, 1, 1, 1, 1, 1, 1, 1, 1]] [(2, .pointer (some (⟨g7, 0, none⟩))), (4, .pointer (some (⟨g11, 0, none⟩)))] (by kernel_rfl) ?_
              refine st (ldAggR (some 73) 54 (⟨g7, 0, none⟩) [.slice A41 (m + ((x.N).toNat)) c41, .int .i64 most, .int .i64 e0] (by kernel_rfl) (by kernel_rfl) (blk_cells hg42 (by kernel_rfl)) ?_)
              refine st (stAggR none 54 g11 0 [.slice A41 (m + ((x.N).toNat)) c41, .int .i64 most, .int .i64 e0] #[.slice none 0 0, .int .i64 0, .int .i64 0] #[.slice A41 (m + ((x.N).toNat)) c41, .int .i64 most, .int .i64 e0] 54 (by kernel_rfl) (by kernel_rfl) (by rfl) hg11 (by simp) (by rfl) ?_)
              intro w43 hx43 hg43 hz43
              replace ho := own_kp ho hx43 (fun k hk (e : k = g11) => by have h1 := own_ge ho hk.symm; first | omega | (have h2 := hlt0 k hk.symm; omega) | (have h2 := hlt6 k hk.symm; omega) | (have h2 := hlt8 k hk.symm; omega) | (have h2 := hlt10 k hk.symm; omega) | (have h2 := hlt15 k hk.symm; omega) | (have h2 := hlt17 k hk.symm; omega) | (have h2 := hlt20 k hk.symm; omega) | (have h2 := hlt36 k hk.symm; omega))
              replace hn41 := own_kp hn41 hx43 (fun k hk (e : k = g11) => by have h1 := own_ge hn41 hk.symm; first | omega)
              replace hF := hF.step hx43 (fun k hk hlt => by have hk : k = g11 := hk; omega)
              refine seg 1 [.co [1, 1, 1, 1, 1, 1, 1, 1, 1]] [(4, .pointer (some (⟨g11, 0, none⟩)))] (by kernel_rfl) ?_
              refine retC [.agg #[.slice A41 (m + ((x.N).toNat)) c41, .int .i64 most, .int .i64 e0]] (by kernel_rfl) ⟨⟨_, rfl, ldv_agg 54 (⟨g11, 0, none⟩) [.slice A41 (m + ((x.N).toNat)) c41, .int .i64 most, .int .i64 e0] (by kernel_rfl) (blk_cells hg43 (by rfl))⟩, trivial⟩ ?_
              have ee : (addE (max most 0) l.length e0 (actE1 x.Do x.N x.V x.B.l) (actM x.Do x.N x.B.l)) = e0 := by
                rw [← hml]
                simp [addE, actE1, actM, putE, h12, h14, hb16, hb18, h21, h33] <;> omega
              rw [ee]
              obtain rfl : e0 = 0 := h12
              have hfin := hn41
              have ex : addL l 0 (actX x.Do x.N x.V x.B.l) = l ++ (enc ((x.N).toNat) x.V) := by simp [addL, actX, h14]
              rw [ex]
              have el : (l ++ (enc ((x.N).toNat) x.V)).length = m + ((x.N).toNat) := by simp only [List.length_append, enc_length] at *; omega
              rw [el]
              exact ⟨_, rfl, _, _, rfl, hF, own_base' hfin (by omega), fun k hk => .inr (by have := own_ge hfin hk.symm; omega)⟩
        · rw [hb18]
          refine seg 4 [.op [1, 1, 1, 0, 1, 0, 1, 0, 1, 0, 1, 0, 0] 1, .co [1, 1, 1, 0, 1, 0, 1, 0, 1, 0, 1, 0, 1], .co [1, 1, 1, 0, 1, 0, 1, 0, 1, 1], .bl 0, .co [1, 1, 1, 1]] [(2, .pointer (some (⟨g7, 0, none⟩))), (4, .pointer (some (⟨g11, 0, none⟩))), (41, .pointer (some (⟨g7, 2, none⟩)))] (by kernel_rfl) ?_
          refine st (stR none 3 g7 2 (.int .i64 9) #[.slice A m c, .int .i64 most, .int .i64 e0] 54 (by kernel_rfl) (by kernel_rfl) rfl hg7 (by simp) ?_)
          intro w44 hx44 hg44 hz44
          replace ho := own_kp ho hx44 (fun k hk (e : k = g7) => by have h1 := own_ge ho hk.symm; first | omega | (have h2 := hlt0 k hk.symm; omega) | (have h2 := hlt6 k hk.symm; omega) | (have h2 := hlt8 k hk.symm; omega) | (have h2 := hlt10 k hk.symm; omega) | (have h2 := hlt15 k hk.symm; omega) | (have h2 := hlt17 k hk.symm; omega))
          replace hg11 := hx44.blk hg11 (fun e => by have e : g11 = g7 := e; omega)
          replace hF := hF.step hx44 (fun k hk hlt => by have hk : k = g7 := hk; omega)
          replace hg44 : w44.heap[g7]? = some (.cells #[.slice A m c, .int .i64 most, .int .i64 9] 54 (0, 0)) := hg44
          refine seg 3 [.op [1, 1, 1, 0, 1, 0, 1, 0, 1, 0, 1, 0, 1, 0] 0, .co [1, 1, 1, 0, 1, 0, 1, 0, 1, 0, 1, 0, 1, 1], .co [1, 1, 1, 0, 1, 0, 1, 0, 1, 1], .bl 0, .co [1, 1, 1, 1]] [(2, .pointer (some (⟨g7, 0, none⟩))), (4, .pointer (some (⟨g11, 0, none⟩)))] (by kernel_rfl) ?_
          refine st (ldAggR (some 42) 54 (⟨g7, 0, none⟩) [.slice A m c, .int .i64 most, .int .i64 9] (by kernel_rfl) (by kernel_rfl) (blk_cells hg44 (by kernel_rfl)) ?_)
          refine st (stAggR none 54 g11 0 [.slice A m c, .int .i64 most, .int .i64 9] #[.slice none 0 0, .int .i64 0, .int .i64 0] #[.slice A m c, .int .i64 most, .int .i64 9] 54 (by kernel_rfl) (by kernel_rfl) (by rfl) hg11 (by simp) (by rfl) ?_)
          intro w45 hx45 hg45 hz45
          replace ho := own_kp ho hx45 (fun k hk (e : k = g11) => by have h1 := own_ge ho hk.symm; first | omega | (have h2 := hlt0 k hk.symm; omega) | (have h2 := hlt6 k hk.symm; omega) | (have h2 := hlt8 k hk.symm; omega) | (have h2 := hlt10 k hk.symm; omega) | (have h2 := hlt15 k hk.symm; omega) | (have h2 := hlt17 k hk.symm; omega))
          replace hF := hF.step hx45 (fun k hk hlt => by have hk : k = g11 := hk; omega)
          refine seg 1 [.co [1, 1, 1, 0, 1, 0, 1, 0, 1, 0, 1, 0, 1, 1], .co [1, 1, 1, 0, 1, 0, 1, 0, 1, 1], .bl 0, .co [1, 1, 1, 1]] [(4, .pointer (some (⟨g11, 0, none⟩)))] (by kernel_rfl) ?_
          refine retC [.agg #[.slice A m c, .int .i64 most, .int .i64 9]] (by kernel_rfl) ⟨⟨_, rfl, ldv_agg 54 (⟨g11, 0, none⟩) [.slice A m c, .int .i64 most, .int .i64 9] (by kernel_rfl) (blk_cells hg45 (by rfl))⟩, trivial⟩ ?_
          have ee : (addE (max most 0) l.length e0 (actE1 x.Do x.N x.V x.B.l) (actM x.Do x.N x.B.l)) = 9 := by
            rw [← hml]
            simp [addE, actE1, actM, putE, h12, h14, hb16, hb18] <;> omega
          rw [ee]
          have ez : (9 : Int) ≠ 0 := by first | assumption | decide
          have el : addL l (9) (actX x.Do x.N x.V x.B.l) = l := by simp only [addL, ez, if_false]
          rw [el, ← hml]
          exact ⟨_, rfl, _, _, rfl, hF, ho, fun k hk => .inl hk⟩
      · rw [hb16]
        refine seg 4 [.op [1, 1, 1, 0, 1, 0, 1, 0, 0, 1, 0, 0] 1, .co [1, 1, 1, 0, 1, 0, 1, 0, 0, 1, 0, 1], .co [1, 1, 1, 0, 1, 0, 1, 0, 1], .bl 0, .co [1, 1, 1, 1]] [(2, .pointer (some (⟨g7, 0, none⟩))), (4, .pointer (some (⟨g11, 0, none⟩))), (33, .pointer (some (⟨g7, 2, none⟩)))] (by kernel_rfl) ?_
        refine st (stR none 3 g7 2 (.int .i64 1) #[.slice A m c, .int .i64 most, .int .i64 e0] 54 (by kernel_rfl) (by kernel_rfl) rfl hg7 (by simp) ?_)
        intro w46 hx46 hg46 hz46
        replace ho := own_kp ho hx46 (fun k hk (e : k = g7) => by have h1 := own_ge ho hk.symm; first | omega | (have h2 := hlt0 k hk.symm; omega) | (have h2 := hlt6 k hk.symm; omega) | (have h2 := hlt8 k hk.symm; omega) | (have h2 := hlt10 k hk.symm; omega) | (have h2 := hlt15 k hk.symm; omega))
        replace hg11 := hx46.blk hg11 (fun e => by have e : g11 = g7 := e; omega)
        replace hF := hF.step hx46 (fun k hk hlt => by have hk : k = g7 := hk; omega)
        replace hg46 : w46.heap[g7]? = some (.cells #[.slice A m c, .int .i64 most, .int .i64 1] 54 (0, 0)) := hg46
        refine seg 3 [.op [1, 1, 1, 0, 1, 0, 1, 0, 0, 1, 0, 1, 0] 0, .co [1, 1, 1, 0, 1, 0, 1, 0, 0, 1, 0, 1, 1], .co [1, 1, 1, 0, 1, 0, 1, 0, 1], .bl 0, .co [1, 1, 1, 1]] [(2, .pointer (some (⟨g7, 0, none⟩))), (4, .pointer (some (⟨g11, 0, none⟩)))] (by kernel_rfl) ?_
        refine st (ldAggR (some 34) 54 (⟨g7, 0, none⟩) [.slice A m c, .int .i64 most, .int .i64 1] (by kernel_rfl) (by kernel_rfl) (blk_cells hg46 (by kernel_rfl)) ?_)
        refine st (stAggR none 54 g11 0 [.slice A m c, .int .i64 most, .int .i64 1] #[.slice none 0 0, .int .i64 0, .int .i64 0] #[.slice A m c, .int .i64 most, .int .i64 1] 54 (by kernel_rfl) (by kernel_rfl) (by rfl) hg11 (by simp) (by rfl) ?_)
        intro w47 hx47 hg47 hz47
        replace ho := own_kp ho hx47 (fun k hk (e : k = g11) => by have h1 := own_ge ho hk.symm; first | omega | (have h2 := hlt0 k hk.symm; omega) | (have h2 := hlt6 k hk.symm; omega) | (have h2 := hlt8 k hk.symm; omega) | (have h2 := hlt10 k hk.symm; omega) | (have h2 := hlt15 k hk.symm; omega))
        replace hF := hF.step hx47 (fun k hk hlt => by have hk : k = g11 := hk; omega)
        refine seg 1 [.co [1, 1, 1, 0, 1, 0, 1, 0, 0, 1, 0, 1, 1], .co [1, 1, 1, 0, 1, 0, 1, 0, 1], .bl 0, .co [1, 1, 1, 1]] [(4, .pointer (some (⟨g11, 0, none⟩)))] (by kernel_rfl) ?_
        refine retC [.agg #[.slice A m c, .int .i64 most, .int .i64 1]] (by kernel_rfl) ⟨⟨_, rfl, ldv_agg 54 (⟨g11, 0, none⟩) [.slice A m c, .int .i64 most, .int .i64 1] (by kernel_rfl) (blk_cells hg47 (by rfl))⟩, trivial⟩ ?_
        have ee : (addE (max most 0) l.length e0 (actE1 x.Do x.N x.V x.B.l) (actM x.Do x.N x.B.l)) = 1 := by
          rw [← hml]
          simp [addE, actE1, actM, putE, h12, h14, hb16] <;> omega
        rw [ee]
        have ez : (1 : Int) ≠ 0 := by first | assumption | decide
        have el : addL l (1) (actX x.Do x.N x.V x.B.l) = l := by simp only [addL, ez, if_false]
        rw [el, ← hml]
        exact ⟨_, rfl, _, _, rfl, hF, ho, fun k hk => .inl hk⟩
    · rw [hb14]
      have h14 : x.Do ≠ 0 := by simpa using hb14
      refine seg 6 [.co [1, 1, 1, 0, 1, 0, 1, 1, 1], .bl 0, .co [1, 1, 1, 1]] [(2, .pointer (some (⟨g7, 0, none⟩))), (3, .pointer (some (⟨g9, 0, none⟩))), (4, .pointer (some (⟨g11, 0, none⟩))), (48, .bool (x.Do == 1))] (by kernel_rfl) ?_
      rcases bsplit (x.Do == 1) with hb48 | hb48
      · rw [hb48]
        have h48 : x.Do = 1 := by simpa using hb48
        refine seg 3 [.op [1, 1, 1, 0, 1, 0, 1, 1, 1, 0] 1, .bl 0, .co [1, 1, 1, 1]] [(2, .pointer (some (⟨g7, 0, none⟩))), (4, .pointer (some (⟨g11, 0, none⟩))), (50, .pointer (some (⟨g9, 3, none⟩)))] (by kernel_rfl) ?_
        refine st (ldR (some 51) 22 (⟨g9, 3, none⟩) (.slice x.B.A x.B.l.length x.B.c) (by kernel_rfl) (by kernel_rfl) (blk_cell hg9 rfl) ?_)
        refine seg 6 [.op [1, 1, 1, 1, 0] 1, .co [1, 1, 1, 1, 1]] [(2, .pointer (some (⟨g7, 0, none⟩))), (4, .pointer (some (⟨g11, 0, none⟩))), (5, .slice x.B.A x.B.l.length x.B.c), (52, .pointer (some (⟨g7, 1, none⟩)))] (by kernel_rfl) ?_
        refine st (ldR (some 53) 3 (⟨g7, 1, none⟩) (.int .i64 most) (by kernel_rfl) (by kernel_rfl) (blk_cell hg7 rfl) ?_)
        refine seg 8 [.co [1, 1, 1, 1, 1, 0, 1], .co [1, 1, 1, 1, 1, 1]] [(2, .pointer (some (⟨g7, 0, none⟩))), (4, .pointer (some (⟨g11, 0, none⟩))), (5, .slice x.B.A x.B.l.length x.B.c), (6, .int .i64 most), (55, .bool (decide (most < 0)))] (by kernel_rfl) ?_
        rcases bsplit (decide (most < 0)) with hb49 | hb49
        · rw [hb49]
          have h49 := of_decide_eq_true hb49
          refine seg 11 [.op [1, 1, 1, 1, 1, 1, 0, 0] 4, .co [1, 1, 1, 1, 1, 1, 0, 1], .co [1, 1, 1, 1, 1, 1, 1]] [(2, .pointer (some (⟨g7, 0, none⟩))), (4, .pointer (some (⟨g11, 0, none⟩))), (5, .slice x.B.A x.B.l.length x.B.c), (57, .int .i64 (x.B.l.length : Int)), (58, .int .i64 0), (59, .pointer (some (⟨g7, 0, none⟩)))] (by kernel_rfl) ?_
          refine st (ldR (some 60) 22 (⟨g7, 0, none⟩) (.slice A m c) (by kernel_rfl) (by kernel_rfl) (blk_cell hg7 rfl) ?_)
          refine seg 4 [.co [1, 1, 1, 1, 1, 1, 0, 1], .co [1, 1, 1, 1, 1, 1, 1]] [(2, .pointer (some (⟨g7, 0, none⟩))), (4, .pointer (some (⟨g11, 0, none⟩))), (5, .slice x.B.A x.B.l.length x.B.c), (63, .bool (decide ((x.B.l.length : Int) > (IntKind.i64.wrap (0 - (m : Int))))))] (by kernel_rfl) ?_
          rw [show IntKind.i64.wrap (0 - (m : Int)) = (0 - (m : Int)) from w64 (by omega)]
          rcases bsplit (decide ((x.B.l.length : Int) > (0 - (m : Int)))) with hb50 | hb50
          · rw [hb50]
            have h50 := of_decide_eq_true hb50
            refine seg 4 [.op [1, 1, 1, 1, 1, 1, 0, 1, 0, 0] 1, .co [1, 1, 1, 1, 1, 1, 0, 1, 0, 1], .co [1, 1, 1, 1, 1, 1, 1]] [(2, .pointer (some (⟨g7, 0, none⟩))), (4, .pointer (some (⟨g11, 0, none⟩))), (64, .pointer (some (⟨g7, 2, none⟩)))] (by kernel_rfl) ?_
            refine st (stR none 3 g7 2 (.int .i64 2) #[.slice A m c, .int .i64 most, .int .i64 e0] 54 (by kernel_rfl) (by kernel_rfl) rfl hg7 (by simp) ?_)
            intro w51 hx51 hg51 hz51
            replace ho := own_kp ho hx51 (fun k hk (e : k = g7) => by have h1 := own_ge ho hk.symm; first | omega | (have h2 := hlt0 k hk.symm; omega) | (have h2 := hlt6 k hk.symm; omega) | (have h2 := hlt8 k hk.symm; omega) | (have h2 := hlt10 k hk.symm; omega))
            replace hg11 := hx51.blk hg11 (fun e => by have e : g11 = g7 := e; omega)
            replace hF := hF.step hx51 (fun k hk hlt => by have hk : k = g7 := hk; omega)
            replace hg51 : w51.heap[g7]? = some (.cells #[.slice A m c, .int .i64 most, .int .i64 2] 54 (0, 0)) := hg51
            refine seg 3 [.op [1, 1, 1, 1, 1, 1, 0, 1, 0, 1, 0] 0, .co [1, 1, 1, 1, 1, 1, 0, 1, 0, 1, 1], .co [1, 1, 1, 1, 1, 1, 1]] [(2, .pointer (some (⟨g7, 0, none⟩))), (4, .pointer (some (⟨g11, 0, none⟩)))] (by kernel_rfl) ?_
            refine st (ldAggR (some 65) 54 (⟨g7, 0, none⟩) [.slice A m c, .int .i64 most, .int .i64 2] (by kernel_rfl) (by kernel_rfl) (blk_cells hg51 (by kernel_rfl)) ?_)
            refine st (stAggR none 54 g11 0 [.slice A m c, .int .i64 most, .int .i64 2] #[.slice none 0 0, .int .i64 0, .int .i64 0] #[.slice A m c, .int .i64 most, .int .i64 2] 54 (by kernel_rfl) (by kernel_rfl) (by rfl) hg11 (by simp) (by rfl) ?_)
            intro w52 hx52 hg52 hz52
            replace ho := own_kp ho hx52 (fun k hk (e : k = g11) => by have h1 := own_ge ho hk.symm; first | omega | (have h2 := hlt0 k hk.symm; omega) | (have h2 := hlt6 k hk.symm; omega) | (have h2 := hlt8 k hk.symm; omega) | (have h2 := hlt10 k hk.symm; omega))
            replace hF := hF.step hx52 (fun k hk hlt => by have hk : k = g11 := hk; omega)
            refine seg 1 [.co [1, 1, 1, 1, 1, 1, 0, 1, 0, 1, 1], .co [1, 1, 1, 1, 1, 1, 1]] [(4, .pointer (some (⟨g11, 0, none⟩)))] (by kernel_rfl) ?_
            refine retC [.agg #[.slice A m c, .int .i64 most, .int .i64 2]] (by kernel_rfl) ⟨⟨_, rfl, ldv_agg 54 (⟨g11, 0, none⟩) [.slice A m c, .int .i64 most, .int .i64 2] (by kernel_rfl) (blk_cells hg52 (by rfl))⟩, trivial⟩ ?_
            have ee : (addE (max most 0) l.length e0 (actE1 x.Do x.N x.V x.B.l) (actM x.Do x.N x.B.l)) = 2 := by
              rw [← hml]
              simp [addE, actE1, actM, putE, h12, h14, h48, h49, h50] <;> omega
            rw [ee]
            have ez : (2 : Int) ≠ 0 := by first | assumption | decide
            have el : addL l (2) (actX x.Do x.N x.V x.B.l) = l := by simp only [addL, ez, if_false]
            rw [el, ← hml]
            exact ⟨_, rfl, _, _, rfl, hF, ho, fun k hk => .inl hk⟩
          · rw [hb50]
            have h50 := of_decide_eq_false hb50
            refine seg 4 [.op [1, 1, 1, 1, 1, 1, 1, 0] 0, .co [1, 1, 1, 1, 1, 1, 1, 1]] [(2, .pointer (some (⟨g7, 0, none⟩))), (4, .pointer (some (⟨g11, 0, none⟩))), (5, .slice x.B.A x.B.l.length x.B.c)] (by kernel_rfl) ?_
            have hlt53 := own_lt ho
            refine st (newR (some 66) (fun g => .slice (some ⟨g, 0, none⟩) 0 0) (.cells #[] 5) (by kernel_rfl) ?_)
            intro g54 w54 hgs54 hx54 hg54 hz54
            replace ho := own_ex ho hx54
            replace hx : TAct.Ok _ _ _ x := Dat.kp (a := x) hx hx54 (fun _ e => e.elim)
            replace hg7 := hx54.blk hg7 (fun e => e)
            replace hg11 := hx54.blk hg11 (fun e => e)
            replace hF := hF.ex hx54
            refine seg 1 [.op [1, 1, 1, 1, 1, 1, 1, 0] 2, .co [1, 1, 1, 1, 1, 1, 1, 1]] [(2, .pointer (some (⟨g7, 0, none⟩))), (4, .pointer (some (⟨g11, 0, none⟩))), (5, .slice x.B.A x.B.l.length x.B.c), (66, .slice (some ⟨g54, 0, none⟩) 0 0), (67, .pointer (some (⟨g7, 0, none⟩)))] (by kernel_rfl) ?_
            refine st (ldR (some 68) 22 (⟨g7, 0, none⟩) (.slice A m c) (by kernel_rfl) (by kernel_rfl) (blk_cell hg7 rfl) ?_)
            have ho55 := own_of_blk (base := g54) (n := 0) (sz := 1) hg54 (by omega) (by simp [maxLen]) (by simp)
            refine st (appR (some 69) 22 5 1 1 (.int .u8 0) 22 g54 (some ⟨g54, 0, none⟩) A 0 0 m c ([]) (bs l) ⟨Try.underlying22, by kernel_rfl⟩ rfl (by decide) (by kernel_rfl) ho55 (Cs.of_own ho) (by first | (have := ho.1; omega) | (rw [bs_length]; omega)) (bs_one _) (by omega) (by decide) (by omega) ?_)
            intro A56 c56 w56 hn56 hx56 hb56 hc56 hz56
            replace ho := own_kp ho hx56 (fun k hk e => by have h1 := own_ge ho hk.symm; first | (have h2 := own_ge ho55 e; omega) | (have h2 := own_ge ho55 e; have h3 := hlt0 k hk.symm; omega) | (have h2 := own_ge ho55 e; have h3 := hlt6 k hk.symm; omega) | (have h2 := own_ge ho55 e; have h3 := hlt8 k hk.symm; omega) | (have h2 := own_ge ho55 e; have h3 := hlt10 k hk.symm; omega) | (have h2 := own_ge ho55 e; have h3 := hlt53 k hk.symm; omega))
            replace hx : TAct.Ok _ _ _ x := Dat.kp (a := x) hx hx56 (fun k hk => by first | exact .inr (by have := own_ge ho55 hk; omega))
            replace hg7 := hx56.blk hg7 (fun e => by first | (have := own_ge ho55 e; omega))
            replace hg11 := hx56.blk hg11 (fun e => by first | (have := own_ge ho55 e; omega))
            replace hF := hF.step hx56 (fun k hk hlt => absurd (own_ge ho55 hk) (by omega))
            rw [List.nil_append] at hn56
            rw [Nat.zero_add] at hn56 hc56 ⊢
            refine seg 1 [.op [1, 1, 1, 1, 1, 1, 1, 0] 5, .co [1, 1, 1, 1, 1, 1, 1, 1]] [(2, .pointer (some (⟨g7, 0, none⟩))), (4, .pointer (some (⟨g11, 0, none⟩))), (69, .slice A56 m c56), (70, .slice x.B.A x.B.l.length x.B.c)] (by kernel_rfl) ?_
            refine st (appR (some 71) 22 5 1 1 (.int .u8 0) 22 g54 A56 x.B.A m c56 x.B.l.length x.B.c (bs l) (bs x.B.l) ⟨Try.underlying22, by kernel_rfl⟩ rfl (by decide) (by kernel_rfl) hn56 (Sls.Ok.bcs hx.B) (by first | (rw [bs_length]; omega) | (simp [bs_length]; omega)) (bs_one _) (by omega) (by decide) (by omega) ?_)
            intro A57 c57 w57 hn57 hx57 hb57 hc57 hz57
            replace ho := own_kp ho hx57 (fun k hk e => by have h1 := own_ge ho hk.symm; first | (have h2 := own_ge hn56 e; omega) | (have h2 := own_ge hn56 e; have h3 := hlt0 k hk.symm; omega) | (have h2 := own_ge hn56 e; have h3 := hlt6 k hk.symm; omega) | (have h2 := own_ge hn56 e; have h3 := hlt8 k hk.symm; omega) | (have h2 := own_ge hn56 e; have h3 := hlt10 k hk.symm; omega) | (have h2 := own_ge hn56 e; have h3 := hlt53 k hk.symm; omega))
            replace hg7 := hx57.blk hg7 (fun e => by first | (have := own_ge hn56 e; omega))
            replace hg11 := hx57.blk hg11 (fun e => by first | (have := own_ge hn56 e; omega))
            replace hF := hF.step hx57 (fun k hk hlt => absurd (own_ge hn56 hk) (by omega))
            rw [← bs_append] at hn57
            refine seg 1 [.op [1, 1, 1, 1, 1, 1, 1, 0] 7, .co [1, 1, 1, 1, 1, 1, 1, 1]] [(2, .pointer (some (⟨g7, 0, none⟩))), (4, .pointer (some (⟨g11, 0, none⟩))), (71, .slice A57 (m + x.B.l.length) c57), (72, .pointer (some (⟨g7, 0, none⟩)))] (by kernel_rfl) ?_
            refine st (stR none 22 g7 0 (.slice A57 (m + x.B.l.length) c57) #[.slice A m c, .int .i64 most, .int .i64 e0] 54 (by kernel_rfl) (by kernel_rfl) rfl hg7 (by simp) ?_)
            intro w58 hx58 hg58 hz58
            replace ho := own_kp ho hx58 (fun k hk (e : k = g7) => by have h1 := own_ge ho hk.symm; first | omega | (have h2 := hlt0 k hk.symm; omega) | (have h2 := hlt6 k hk.symm; omega) | (have h2 := hlt8 k hk.symm; omega) | (have h2 := hlt10 k hk.symm; omega) | (have h2 := hlt53 k hk.symm; omega))
            replace hn57 := own_kp hn57 hx58 (fun k hk (e : k = g7) => by have h1 := own_ge hn57 hk.symm; first | omega)
            replace hg11 := hx58.blk hg11 (fun e => by have e : g11 = g7 := e; omega)
            replace hF := hF.step hx58 (fun k hk hlt => by have hk : k = g7 := hk; omega)
            replace hg58 : w58.heap[g7]? = some (.cells #[.slice A57 (m + x.B.l.length) c57, .int .i64 most, .int .i64 e0] 54 (0, 0)) := hg58
            refine seg 3 [.op [1, 1, 1, 1, 1, 1, 1, 1, 0] 0, .co [1, 1, 1, 1, 1, 1, 1, 1, 1]] [(2, .pointer (some (⟨g7, 0, none⟩))), (4, .pointer (some (⟨g11, 0, none⟩)))] (by kernel_rfl) ?_
            refine st (ldAggR (some 73) 54 (⟨g7, 0, none⟩) [.slice A57 (m + x.B.l.length) c57, .int .i64 most, .int .i64 e0] (by kernel_rfl) (by kernel_rfl) (blk_cells hg58 (by kernel_rfl)) ?_)
            refine st (stAggR none 54 g11 0 [.slice A57 (m + x.B.l.length) c57, .int .i64 most, .int .i64 e0] #[.slice none 0 0, .int .i64 0, .int .i64 0] #[.slice A57 (m + x.B.l.length) c57, .int .i64 most, .int .i64 e0] 54 (by kernel_rfl) (by kernel_rfl) (by rfl) hg11 (by simp) (by rfl) ?_)
            intro w59 hx59 hg59 hz59
            replace ho := own_kp ho hx59 (fun k hk (e : k = g11) => by have h1 := own_ge ho hk.symm; first | omega | (have h2 := hlt0 k hk.symm; omega) | (have h2 := hlt6 k hk.symm; omega) | (have h2 := hlt8 k hk.symm; omega) | (have h2 := hlt10 k hk.symm; omega) | (have h2 := hlt53 k hk.symm; omega))
            replace hn57 := own_kp hn57 hx59 (fun k hk (e : k = g11) => by have h1 := own_ge hn57 hk.symm; first | omega)
            replace hF := hF.step hx59 (fun k hk hlt => by have hk : k = g11 := hk; omega)
            refine seg 1 [.co [1, 1, 1, 1, 1, 1, 1, 1, 1]] [(4, .pointer (some (⟨g11, 0, none⟩)))] (by kernel_rfl) ?_
            refine retC [.agg #[.slice A57 (m + x.B.l.length) c57, .int .i64 most, .int .i64 e0]] (by kernel_rfl) ⟨⟨_, rfl, ldv_agg 54 (⟨g11, 0, none⟩) [.slice A57 (m + x.B.l.length) c57, .int .i64 most, .int .i64 e0] (by kernel_rfl) (blk_cells hg59 (by rfl))⟩, trivial⟩ ?_
            have ee : (addE (max most 0) l.length e0 (actE1 x.Do x.N x.V x.B.l) (actM x.Do x.N x.B.l)) = e0 := by
              rw [← hml]
              simp [addE, actE1, actM, putE, h12, h14, h48, h49, h50] <;> omega
            rw [ee]
            obtain rfl : e0 = 0 := h12
            have hfin := hn57
            have ex : addL l 0 (actX x.Do x.N x.V x.B.l) = l ++ x.B.l := by simp [addL, actX, h14, h48]
            rw [ex]
            have el : (l ++ x.B.l).length = m + x.B.l.length := by simp only [List.length_append, enc_length] at *; omega
            rw [el]
            exact ⟨_, rfl, _, _, rfl, hF, own_base' hfin (by omega), fun k hk => .inr (by have := own_ge hfin hk.symm; omega)⟩
        · rw [hb49]
          have h49 := of_decide_eq_false hb49
          refine seg 9 [.op [1, 1, 1, 1, 1, 1, 0, 0] 4, .co [1, 1, 1, 1, 1, 1, 0, 1], .co [1, 1, 1, 1, 1, 1, 1]] [(2, .pointer (some (⟨g7, 0, none⟩))), (4, .pointer (some (⟨g11, 0, none⟩))), (5, .slice x.B.A x.B.l.length x.B.c), (57, .int .i64 (x.B.l.length : Int)), (58, .int .i64 most), (59, .pointer (some (⟨g7, 0, none⟩)))] (by kernel_rfl) ?_
          refine st (ldR (some 60) 22 (⟨g7, 0, none⟩) (.slice A m c) (by kernel_rfl) (by kernel_rfl) (blk_cell hg7 rfl) ?_)
          refine seg 4 [.co [1, 1, 1, 1, 1, 1, 0, 1], .co [1, 1, 1, 1, 1, 1, 1]] [(2, .pointer (some (⟨g7, 0, none⟩))), (4, .pointer (some (⟨g11, 0, none⟩))), (5, .slice x.B.A x.B.l.length x.B.c), (63, .bool (decide ((x.B.l.length : Int) > (IntKind.i64.wrap (most - (m : Int))))))] (by kernel_rfl) ?_
          rw [show IntKind.i64.wrap (most - (m : Int)) = (most - (m : Int)) from w64 (by omega)]
          rcases bsplit (decide ((x.B.l.length : Int) > (most - (m : Int)))) with hb60 | hb60
          · rw [hb60]
            have h60 := of_decide_eq_true hb60
            refine seg 4 [.op [1, 1, 1, 1, 1, 1, 0, 1, 0, 0] 1, .co [1, 1, 1, 1, 1, 1, 0, 1, 0, 1], .co [1, 1, 1, 1, 1, 1, 1]] [(2, .pointer (some (⟨g7, 0, none⟩))), (4, .pointer (some (⟨g11, 0, none⟩))), (64, .pointer (some (⟨g7, 2, none⟩)))] (by kernel_rfl) ?_
            refine st (stR none 3 g7 2 (.int .i64 2) #[.slice A m c, .int .i64 most, .int .i64 e0] 54 (by kernel_rfl) (by kernel_rfl) rfl hg7 (by simp) ?_)
            intro w61 hx61 hg61 hz61
            replace ho := own_kp ho hx61 (fun k hk (e : k = g7) => by have h1 := own_ge ho hk.symm; first | omega | (have h2 := hlt0 k hk.symm; omega) | (have h2 := hlt6 k hk.symm; omega) | (have h2 := hlt8 k hk.symm; omega) | (have h2 := hlt10 k hk.symm; omega))
            replace hg11 := hx61.blk hg11 (fun e => by have e : g11 = g7 := e; omega)
            replace hF := hF.step hx61 (fun k hk hlt => by have hk : k = g7 := hk; omega)
            replace hg61 : w61.heap[g7]? = some (.cells #[.slice A m c, .int .i64 most, .int .i64 2] 54 (0, 0)) := hg61
            refine seg 3 [.op [1, 1, 1, 1, 1, 1, 0, 1, 0, 1, 0] 0, .co [1, 1, 1, 1, 1, 1, 0, 1, 0, 1, 1], .co [1, 1, 1, 1, 1, 1, 1]] [(2, .pointer (some (⟨g7, 0, none⟩))), (4, .pointer (some (⟨g11, 0, none⟩)))] (by kernel_rfl) ?_
            refine st (ldAggR (some 65) 54 (⟨g7, 0, none⟩) [.slice A m c, .int .i64 most, .int .i64 2] (by kernel_rfl) (by kernel_rfl) (blk_cells hg61 (by kernel_rfl)) ?_)
            refine st (stAggR none 54 g11 0 [.slice A m c, .int .i64 most, .int .i64 2] #[.slice none 0 0, .int .i64 0, .int .i64 0] #[.slice A m c, .int .i64 most, .int .i64 2] 54 (by kernel_rfl) (by kernel_rfl) (by rfl) hg11 (by simp) (by rfl) ?_)
            intro w62 hx62 hg62 hz62
            replace ho := own_kp ho hx62 (fun k hk (e : k = g11) => by have h1 := own_ge ho hk.symm; first | omega | (have h2 := hlt0 k hk.symm; omega) | (have h2 := hlt6 k hk.symm; omega) | (have h2 := hlt8 k hk.symm; omega) | (have h2 := hlt10 k hk.symm; omega))
            replace hF := hF.step hx62 (fun k hk hlt => by have hk : k = g11 := hk; omega)
            refine seg 1 [.co [1, 1, 1, 1, 1, 1, 0, 1, 0, 1, 1], .co [1, 1, 1, 1, 1, 1, 1]] [(4, .pointer (some (⟨g11, 0, none⟩)))] (by kernel_rfl) ?_
            refine retC [.agg #[.slice A m c, .int .i64 most, .int .i64 2]] (by kernel_rfl) ⟨⟨_, rfl, ldv_agg 54 (⟨g11, 0, none⟩) [.slice A m c, .int .i64 most, .int .i64 2] (by kernel_rfl) (blk_cells hg62 (by rfl))⟩, trivial⟩ ?_
            have ee : (addE (max most 0) l.length e0 (actE1 x.Do x.N x.V x.B.l) (actM x.Do x.N x.B.l)) = 2 := by
              rw [← hml]
              simp [addE, actE1, actM, putE, h12, h14, h48, h49, h60] <;> omega
            rw [ee]
            have ez : (2 : Int) ≠ 0 := by first | assumption | decide
            have el : addL l (2) (actX x.Do x.N x.V x.B.l) = l := by simp only [addL, ez, if_false]
            rw [el, ← hml]
            exact ⟨_, rfl, _, _, rfl, hF, ho, fun k hk => .inl hk⟩
          · rw [hb60]
            have h60 := of_decide_eq_false hb60
            refine seg 4 [.op [1, 1, 1, 1, 1, 1, 1, 0] 0, .co [1, 1, 1, 1, 1, 1, 1, 1]] [(2, .pointer (some (⟨g7, 0, none⟩))), (4, .pointer (some (⟨g11, 0, none⟩))), (5, .slice x.B.A x.B.l.length x.B.c)] (by kernel_rfl) ?_
            have hlt63 := own_lt ho
            refine st (newR (some 66) (fun g => .slice (some ⟨g, 0, none⟩) 0 0) (.cells #[] 5) (by kernel_rfl) ?_)
            intro g64 w64 hgs64 hx64 hg64 hz64
            replace ho := own_ex ho hx64
            replace hx : TAct.Ok _ _ _ x := Dat.kp (a := x) hx hx64 (fun _ e => e.elim)
            replace hg7 := hx64.blk hg7 (fun e => e)
            replace hg11 := hx64.blk hg11 (fun e => e)
            replace hF := hF.ex hx64
            refine seg 1 [.op [1, 1, 1, 1, 1, 1, 1, 0] 2, .co [1, 1, 1, 1, 1, 1, 1, 1]] [(2, .pointer (some (⟨g7, 0, none⟩))), (4, .pointer (some (⟨g11, 0, none⟩))), (5, .slice x.B.A x.B.l.length x.B.c), (66, .slice (some ⟨g64, 0, none⟩) 0 0), (67, .pointer (some (⟨g7, 0, none⟩)))] (by kernel_rfl) ?_
            refine st (ldR (some 68) 22 (⟨g7, 0, none⟩) (.slice A m c) (by kernel_rfl) (by kernel_rfl) (blk_cell hg7 rfl) ?_)
            have ho65 := own_of_blk (base := g64) (n := 0) (sz := 1) hg64 (by omega) (by simp [maxLen]) (by simp)
            refine st (appR (some 69) 22 5 1 1 (.int .u8 0) 22 g64 (some ⟨g64, 0, none⟩) A 0 0 m c ([]) (bs l) ⟨Try.underlying22, by kernel_rfl⟩ rfl (by decide) (by kernel_rfl) ho65 (Cs.of_own ho) (by first | (have := ho.1; omega) | (rw [bs_length]; omega)) (bs_one _) (by omega) (by decide) (by omega) ?_)
            intro A66 c66 w66 hn66 hx66 hb66 hc66 hz66
            replace ho := own_kp ho hx66 (fun k hk e => by have h1 := own_ge ho hk.symm; first | (have h2 := own_ge ho65 e; omega) | (have h2 := own_ge ho65 e; have h3 := hlt0 k hk.symm; omega) | (have h2 := own_ge ho65 e; have h3 := hlt6 k hk.symm; omega) | (have h2 := own_ge ho65 e; have h3 := hlt8 k hk.symm; omega) | (have h2 := own_ge ho65 e; have h3 := hlt10 k hk.symm; omega) | (have h2 := own_ge ho65 e; have h3 := hlt63 k hk.symm; omega))
            replace hx : TAct.Ok _ _ _ x := Dat.kp (a := x) hx hx66 (fun k hk => by first | exact .inr (by have := own_ge ho65 hk; omega))
            replace hg7 := hx66.blk hg7 (fun e => by first | (have := own_ge ho65 e; omega))
            replace hg11 := hx66.blk hg11 (fun e => by first | (have := own_ge ho65 e; omega))
            replace hF := hF.step hx66 (fun k hk hlt => absurd (own_ge ho65 hk) (by omega))
            rw [List.nil_append] at hn66
            rw [Nat.zero_add] at hn66 hc66 ⊢
            refine seg 1 [.op [1, 1, 1, 1, 1, 1, 1, 0] 5, .co [1, 1, 1, 1, 1, 1, 1, 1]] [(2, .pointer (some (⟨g7, 0, none⟩))), (4, .pointer (some (⟨g11, 0, none⟩))), (69, .slice A66 m c66), (70, .slice x.B.A x.B.l.length x.B.c)] (by kernel_rfl) ?_
            refine st (appR (some 71) 22 5 1 1 (.int .u8 0) 22 g64 A66 x.B.A m c66 x.B.l.length x.B.c (bs l) (bs x.B.l) ⟨Try.underlying22, by kernel_rfl⟩ rfl (by decide) (by kernel_rfl) hn66 (Sls.Ok.bcs hx.B) (by first | (rw [bs_length]; omega) | (simp [bs_length]; omega)) (bs_one _) (by omega) (by decide) (by omega) ?_)
            intro A67 c67 w67 hn67 hx67 hb67 hc67 hz67
            replace ho := own_kp ho hx67 (fun k hk e => by have h1 := own_ge ho hk.symm; first | (have h2 := own_ge hn66 e; omega) | (have h2 := own_ge hn66 e; have h3 := hlt0 k hk.symm; omega) | (have h2 := own_ge hn66 e; have h3 := hlt6 k hk.symm; omega) | (have h2 := own_ge hn66 e; have h3 := hlt8 k hk.symm; omega) | (have h2 := own_ge hn66 e; have h3 := hlt10 k hk.symm; omega) | (have h2 := own_ge hn66 e; have h3 := hlt63 k hk.symm; omega))
            replace hg7 := hx67.blk hg7 (fun e => by first | (have := own_ge hn66 e; omega))
            replace hg11 := hx67.blk hg11 (fun e => by first | (have := own_ge hn66 e; omega))
            replace hF := hF.step hx67 (fun k hk hlt => absurd (own_ge hn66 hk) (by omega))
            rw [← bs_append] at hn67
            refine seg 1 [.op [1, 1, 1, 1, 1, 1, 1, 0] 7, .co [1, 1, 1, 1, 1, 1, 1, 1]] [(2, .pointer (some (⟨g7, 0, none⟩))), (4, .pointer (some (⟨g11, 0, none⟩))), (71, .slice A67 (m + x.B.l.length) c67), (72, .pointer (some (⟨g7, 0, none⟩)))] (by kernel_rfl) ?_
            refine st (stR none 22 g7 0 (.slice A67 (m + x.B.l.length) c67) #[.slice A m c, .int .i64 most, .int .i64 e0] 54 (by kernel_rfl) (by kernel_rfl) rfl hg7 (by simp) ?_)
            intro w68 hx68 hg68 hz68
            replace ho := own_kp ho hx68 (fun k hk (e : k = g7) => by have h1 := own_ge ho hk.symm; first | omega | (have h2 := hlt0 k hk.symm; omega) | (have h2 := hlt6 k hk.symm; omega) | (have h2 := hlt8 k hk.symm; omega) | (have h2 := hlt10 k hk.symm; omega) | (have h2 := hlt63 k hk.symm; omega))
            replace hn67 := own_kp hn67 hx68 (fun k hk (e : k = g7) => by have h1 := own_ge hn67 hk.symm; first | omega)
            replace hg11 := hx68.blk hg11 (fun e => by have e : g11 = g7 := e; omega)
            replace hF := hF.step hx68 (fun k hk hlt => by have hk : k = g7 := hk; omega)
            replace hg68 : w68.heap[g7]? = some (.cells #[.slice A67 (m + x.B.l.length) c67, .int .i64 most, .int .i64 e0] 54 (0, 0)) := hg68
            refine seg 3 [.op [1, 1, 1, 1, 1, 1, 1, 1, 0] 0, .co [1, 1, 1, 1, 1, 1, 1, 1, 1]] [(2, .pointer (some (⟨g7, 0, none⟩))), (4, .pointer (some (⟨g11, 0, none⟩)))] (by kernel_rfl) ?_
            refine st (ldAggR (some 73) 54 (⟨g7, 0, none⟩) [.slice A67 (m + x.B.l.length) c67, .int .i64 most, .int .i64 e0] (by kernel_rfl) (by kernel_rfl) (blk_cells hg68 (by kernel_rfl)) ?_)
            refine st (stAggR none 54 g11 0 [.slice A67 (m + x.B.l.length) c67, .int .i64 most, .int .i64 e0] #[.slice none 0 0, .int .i64 0, .int .i64 0] #[.slice A67 (m + x.B.l.length) c67, .int .i64 most, .int .i64 e0] 54 (by kernel_rfl) (by kernel_rfl) (by rfl) hg11 (by simp) (by rfl) ?_)
            intro w69 hx69 hg69 hz69
            replace ho := own_kp ho hx69 (fun k hk (e : k = g11) => by have h1 := own_ge ho hk.symm; first | omega | (have h2 := hlt0 k hk.symm; omega) | (have h2 := hlt6 k hk.symm; omega) | (have h2 := hlt8 k hk.symm; omega) | (have h2 := hlt10 k hk.symm; omega) | (have h2 := hlt63 k hk.symm; omega))
            replace hn67 := own_kp hn67 hx69 (fun k hk (e : k = g11) => by have h1 := own_ge hn67 hk.symm; first | omega)
            replace hF := hF.step hx69 (fun k hk hlt => by have hk : k = g11 := hk; omega)
            refine seg 1 [.co [1, 1, 1, 1, 1, 1, 1, 1, 1]] [(4, .pointer (some (⟨g11, 0, none⟩)))] (by kernel_rfl) ?_
            refine retC [.agg #[.slice A67 (m + x.B.l.length) c67, .int .i64 most, .int .i64 e0]] (by kernel_rfl) ⟨⟨_, rfl, ldv_agg 54 (⟨g11, 0, none⟩) [.slice A67 (m + x.B.l.length) c67, .int .i64 most, .int .i64 e0] (by kernel_rfl) (blk_cells hg69 (by rfl))⟩, trivial⟩ ?_
            have ee : (addE (max most 0) l.length e0 (actE1 x.Do x.N x.V x.B.l) (actM x.Do x.N x.B.l)) = e0 := by
              rw [← hml]
              simp [addE, actE1, actM, putE, h12, h14, h48, h49, h60] <;> omega
            rw [ee]
            obtain rfl : e0 = 0 := h12
            have hfin := hn67
            have ex : addL l 0 (actX x.Do x.N x.V x.B.l) = l ++ x.B.l := by simp [addL, actX, h14, h48]
            rw [ex]
            have el : (l ++ x.B.l).length = m + x.B.l.length := by simp only [List.length_append, enc_length] at *; omega
            rw [el]
            exact ⟨_, rfl, _, _, rfl, hF, own_base' hfin (by omega), fun k hk => .inr (by have := own_ge hfin hk.symm; omega)⟩
      · rw [hb48]
        have h48 : x.Do ≠ 1 := by simpa using hb48
        refine seg 5 [.op [1, 1, 1, 0, 1, 0, 1, 1, 1, 1, 0, 0] 1, .co [1, 1, 1, 0, 1, 0, 1, 1, 1, 1, 0, 1], .co [1, 1, 1, 0, 1, 0, 1, 1, 1, 1, 1], .bl 0, .co [1, 1, 1, 1]] [(2, .pointer (some (⟨g7, 0, none⟩))), (3, .pointer (some (⟨g9, 0, none⟩))), (4, .pointer (some (⟨g11, 0, none⟩))), (13, .pointer (some (⟨g9, 3, none⟩)))] (by kernel_rfl) ?_
        refine st (ldR (some 14) 22 (⟨g9, 3, none⟩) (.slice x.B.A x.B.l.length x.B.c) (by kernel_rfl) (by kernel_rfl) (blk_cell hg9 rfl) ?_)
        refine seg 3 [.co [1, 1, 1, 0, 1, 0, 1, 1, 1, 1, 0, 1], .co [1, 1, 1, 0, 1, 0, 1, 1, 1, 1, 1], .bl 0, .co [1, 1, 1, 1]] [(2, .pointer (some (⟨g7, 0, none⟩))), (3, .pointer (some (⟨g9, 0, none⟩))), (4, .pointer (some (⟨g11, 0, none⟩))), (16, .bool (decide ((x.B.l.length : Int) > 65535)))] (by kernel_rfl) ?_
        rcases bsplit (decide ((x.B.l.length : Int) > 65535)) with hb70 | hb70
        · rw [hb70]
          have h70 := of_decide_eq_true hb70
          refine seg 4 [.op [1, 1, 1, 0, 1, 0, 1, 1, 1, 1, 0, 1, 0, 0] 1, .co [1, 1, 1, 0, 1, 0, 1, 1, 1, 1, 0, 1, 0, 1], .co [1, 1, 1, 0, 1, 0, 1, 1, 1, 1, 1], .bl 0, .co [1, 1, 1, 1]] [(2, .pointer (some (⟨g7, 0, none⟩))), (4, .pointer (some (⟨g11, 0, none⟩))), (17, .pointer (some (⟨g7, 2, none⟩)))] (by kernel_rfl) ?_
          refine st (stR none 3 g7 2 (.int .i64 9) #[.slice A m c, .int .i64 most, .int .i64 e0] 54 (by kernel_rfl) (by kernel_rfl) rfl hg7 (by simp) ?_)
          intro w71 hx71 hg71 hz71
          replace ho := own_kp ho hx71 (fun k hk (e : k = g7) => by have h1 := own_ge ho hk.symm; first | omega | (have h2 := hlt0 k hk.symm; omega) | (have h2 := hlt6 k hk.symm; omega) | (have h2 := hlt8 k hk.symm; omega) | (have h2 := hlt10 k hk.symm; omega))
          replace hg11 := hx71.blk hg11 (fun e => by have e : g11 = g7 := e; omega)
          replace hF := hF.step hx71 (fun k hk hlt => by have hk : k = g7 := hk; omega)
          replace hg71 : w71.heap[g7]? = some (.cells #[.slice A m c, .int .i64 most, .int .i64 9] 54 (0, 0)) := hg71
          refine seg 3 [.op [1, 1, 1, 0, 1, 0, 1, 1, 1, 1, 0, 1, 0, 1, 0] 0, .co [1, 1, 1, 0, 1, 0, 1, 1, 1, 1, 0, 1, 0, 1, 1], .co [1, 1, 1, 0, 1, 0, 1, 1, 1, 1, 1], .bl 0, .co [1, 1, 1, 1]] [(2, .pointer (some (⟨g7, 0, none⟩))), (4, .pointer (some (⟨g11, 0, none⟩)))] (by kernel_rfl) ?_
          refine st (ldAggR (some 18) 54 (⟨g7, 0, none⟩) [.slice A m c, .int .i64 most, .int .i64 9] (by kernel_rfl) (by kernel_rfl) (blk_cells hg71 (by kernel_rfl)) ?_)
          refine st (stAggR none 54 g11 0 [.slice A m c, .int .i64 most, .int .i64 9] #[.slice none 0 0, .int .i64 0, .int .i64 0] #[.slice A m c, .int .i64 most, .int .i64 9] 54 (by kernel_rfl) (by kernel_rfl) (by rfl) hg11 (by simp) (by rfl) ?_)
          intro w72 hx72 hg72 hz72
          replace ho := own_kp ho hx72 (fun k hk (e : k = g11) => by have h1 := own_ge ho hk.symm; first | omega | (have h2 := hlt0 k hk.symm; omega) | (have h2 := hlt6 k hk.symm; omega) | (have h2 := hlt8 k hk.symm; omega) | (have h2 := hlt10 k hk.symm; omega))
          replace hF := hF.step hx72 (fun k hk hlt => by have hk : k = g11 := hk; omega)
          refine seg 1 [.co [1, 1, 1, 0, 1, 0, 1, 1, 1, 1, 0, 1, 0, 1, 1], .co [1, 1, 1, 0, 1, 0, 1, 1, 1, 1, 1], .bl 0, .co [1, 1, 1, 1]] [(4, .pointer (some (⟨g11, 0, none⟩)))] (by kernel_rfl) ?_
          refine retC [.agg #[.slice A m c, .int .i64 most, .int .i64 9]] (by kernel_rfl) ⟨⟨_, rfl, ldv_agg 54 (⟨g11, 0, none⟩) [.slice A m c, .int .i64 most, .int .i64 9] (by kernel_rfl) (blk_cells hg72 (by rfl))⟩, trivial⟩ ?_
          have ee : (addE (max most 0) l.length e0 (actE1 x.Do x.N x.V x.B.l) (actM x.Do x.N x.B.l)) = 9 := by
            rw [← hml]
            simp [addE, actE1, actM, putE, h12, h14, h48, h70] <;> omega
          rw [ee]
          have ez : (9 : Int) ≠ 0 := by first | assumption | decide
          have el : addL l (9) (actX x.Do x.N x.V x.B.l) = l := by simp only [addL, ez, if_false]
          rw [el, ← hml]
          exact ⟨_, rfl, _, _, rfl, hF, ho, fun k hk => .inl hk⟩
        · rw [hb70]
          have h70 := of_decide_eq_false hb70
          refine seg 2 [.co [1, 1, 1, 0, 1, 0, 1, 1, 1, 1, 1], .bl 0, .co [1, 1, 1, 1]] [(2, .pointer (some (⟨g7, 0, none⟩))), (3, .pointer (some (⟨g9, 0, none⟩))), (4, .pointer (some (⟨g11, 0, none⟩)))] (by kernel_rfl) ?_
          refine drawT (fun _ => False) (by kernel_rfl) (by kernel_rfl) ?_
          intro w73 hx73 hz73
          have ho_73 := ho
          have hg7_73 := hg7
          have hg9_73 := hg9
          have hg11_73 := hg11
          have hx_73 := hx
          replace ho_73 := own_ex ho_73 hx73
          replace hx_73 : TAct.Ok _ _ _ x := Dat.kp (a := x) hx_73 hx73 (fun _ e => e.elim)
          replace hg7_73 := hx73.blk hg7_73 (fun e => e)
          replace hg9_73 := hx73.blk hg9_73 (fun e => e)
          replace hg11_73 := hx73.blk hg11_73 (fun e => e)
          replace hF := hF.ex hx73
          have hS73 := Kp.refl (fun _ => False) w73
          refine segD [0, 5] [0, 5] [(2, .pointer (some (⟨g7, 0, none⟩))), (4, .pointer (some (⟨g11, 0, none⟩))), (19, .pointer (some (⟨g9, 3, none⟩))), (24, .pointer (some (⟨g9, 3, none⟩)))] (by kernel_rfl) ?_
          refine takeD (i := 1) (d := (some 20)) (s := vS (Instr.loadAt 22 (.pointer (some (⟨g9, 3, none⟩))))) (v := .slice x.B.A x.B.l.length x.B.c) (by kernel_rfl) (by kernel_rfl) (fun w' hw' => ld_run _ _ _ (by kernel_rfl) (hw'.cell (blk_cell hg9_73 rfl) (fun e => e))) ?_
          refine segD [2, 3] [0, 5, 1, 2, 3] [(2, .pointer (some (⟨g7, 0, none⟩))), (4, .pointer (some (⟨g11, 0, none⟩))), (22, .int .u64 (IntKind.u64.wrap (x.B.l.length : Int))), (24, .pointer (some (⟨g9, 3, none⟩)))] (by kernel_rfl) ?_
          rw [show IntKind.u64.wrap (x.B.l.length : Int) = (x.B.l.length : Int) from wu64 (by omega)]
          refine takeD (i := 6) (d := (some 25)) (s := vS (Instr.loadAt 22 (.pointer (some (⟨g9, 3, none⟩))))) (v := .slice x.B.A x.B.l.length x.B.c) (by kernel_rfl) (by kernel_rfl) (fun w' hw' => ld_run _ _ _ (by kernel_rfl) (hw'.cell (blk_cell hg9_73 rfl) (fun e => e))) ?_
          have hlt75 := own_lt ho_73
          refine stD (i := 4) (by kernel_rfl) hS73 (callR (some 23) 22 #[.int .u64 (x.B.l.length : Int), .int .i64 2] Try.call22 (rstore_c w73 x.B.l.length (by omega) 2 (by omega) (by omega)) (by kernel_rfl) ?_)
          rintro _ w74 ⟨A74, c74, rfl, hx74, hn74⟩
          have hz74 := hx74.size
          have hc74 := own_cap hn74
          have ho_74 := ho_73
          have hg7_74 := hg7_73
          have hg11_74 := hg11_73
          have hx_74 := hx_73
          have hS73_74 := hS73
          replace ho_74 := own_ex ho_74 hx74
          replace hx_74 : TAct.Ok _ _ _ x := Dat.kp (a := x) hx_74 hx74 (fun _ e => e.elim)
          replace hg7_74 := hx74.blk hg7_74 (fun e => e)
          replace hg11_74 := hx74.blk hg11_74 (fun e => e)
          replace hS73_74 := hS73_74.ex hx74
          replace hF := hF.ex hx74
          refine stD (i := 7) (by kernel_rfl) hS73_74 (appR (some 26) 22 5 1 1 (.int .u8 0) 22 w73.heap.size A74 x.B.A 2 c74 x.B.l.length x.B.c (bs (enc 2 x.B.l.length)) (bs x.B.l) ⟨Try.underlying22, by kernel_rfl⟩ rfl (by decide) (by kernel_rfl) hn74 (Sls.Ok.bcs hx_74.B) (by first | (rw [bs_length]; omega) | (simp [bs_length]; omega)) (bs_one _) (by omega) (by decide) (by omega) ?_)
          intro A76 c76 w76 hn76 hx76 hb76 hc76 hz76
          have ho_76 := ho_74
          have hg7_76 := hg7_74
          have hg11_76 := hg11_74
          have hS73_76 := hS73_74
          replace ho_76 := own_kp ho_76 hx76 (fun k hk e => by have h1 := own_ge ho_76 hk.symm; first | (have h2 := own_ge hn74 e; omega) | (have h2 := own_ge hn74 e; have h3 := hlt0 k hk.symm; omega) | (have h2 := own_ge hn74 e; have h3 := hlt6 k hk.symm; omega) | (have h2 := own_ge hn74 e; have h3 := hlt8 k hk.symm; omega) | (have h2 := own_ge hn74 e; have h3 := hlt10 k hk.symm; omega) | (have h2 := own_ge hn74 e; have h3 := hlt75 k hk.symm; omega))
          replace hg7_76 := hx76.blk hg7_76 (fun e => by first | (have := own_ge hn74 e; omega))
          replace hg11_76 := hx76.blk hg11_76 (fun e => by first | (have := own_ge hn74 e; omega))
          replace hS73_76 := hS73_76.step hx76 (fun k hk hlt => by have := own_ge hn74 hk; omega)
          replace hF := hF.step hx76 (fun k hk hlt => absurd (own_ge hn74 hk) (by omega))
          rw [← bs_append] at hn76
          refine segD [8] [0, 5, 1, 2, 3, 6, 4, 7, 8] [(2, .pointer (some (⟨g7, 0, none⟩))), (4, .pointer (some (⟨g11, 0, none⟩))), (5, .slice A76 (2 + x.B.l.length) c76)] (by kernel_rfl) ?_
          refine endD (by kernel_rfl) hS73_76 ?_
          refine seg 4 [.op [1, 1, 1, 1, 0] 1, .co [1, 1, 1, 1, 1]] [(2, .pointer (some (⟨g7, 0, none⟩))), (4, .pointer (some (⟨g11, 0, none⟩))), (5, .slice A76 (2 + x.B.l.length) c76), (52, .pointer (some (⟨g7, 1, none⟩)))] (by kernel_rfl) ?_
          refine st (ldR (some 53) 3 (⟨g7, 1, none⟩) (.int .i64 most) (by kernel_rfl) (by kernel_rfl) (blk_cell hg7_76 rfl) ?_)
          refine seg 8 [.co [1, 1, 1, 1, 1, 0, 1], .co [1, 1, 1, 1, 1, 1]] [(2, .pointer (some (⟨g7, 0, none⟩))), (4, .pointer (some (⟨g11, 0, none⟩))), (5, .slice A76 (2 + x.B.l.length) c76), (6, .int .i64 most), (55, .bool (decide (most < 0)))] (by kernel_rfl) ?_
          rcases bsplit (decide (most < 0)) with hb77 | hb77
          · rw [hb77]
            have h77 := of_decide_eq_true hb77
            refine seg 11 [.op [1, 1, 1, 1, 1, 1, 0, 0] 4, .co [1, 1, 1, 1, 1, 1, 0, 1], .co [1, 1, 1, 1, 1, 1, 1]] [(2, .pointer (some (⟨g7, 0, none⟩))), (4, .pointer (some (⟨g11, 0, none⟩))), (5, .slice A76 (2 + x.B.l.length) c76), (57, .int .i64 (2 + x.B.l.length : Int)), (58, .int .i64 0), (59, .pointer (some (⟨g7, 0, none⟩)))] (by kernel_rfl) ?_
            refine st (ldR (some 60) 22 (⟨g7, 0, none⟩) (.slice A m c) (by kernel_rfl) (by kernel_rfl) (blk_cell hg7_76 rfl) ?_)
            refine seg 4 [.co [1, 1, 1, 1, 1, 1, 0, 1], .co [1, 1, 1, 1, 1, 1, 1]] [(2, .pointer (some (⟨g7, 0, none⟩))), (4, .pointer (some (⟨g11, 0, none⟩))), (5, .slice A76 (2 + x.B.l.length) c76), (63, .bool (decide ((2 + x.B.l.length : Int) > (IntKind.i64.wrap (0 - (m : Int))))))] (by kernel_rfl) ?_
            rw [show IntKind.i64.wrap (0 - (m : Int)) = (0 - (m : Int)) from w64 (by omega)]
            rcases bsplit (decide ((2 + x.B.l.length : Int) > (0 - (m : Int)))) with hb78 | hb78
            · rw [hb78]
              have h78 := of_decide_eq_true hb78
              refine seg 4 [.op [1, 1, 1, 1, 1, 1, 0, 1, 0, 0] 1, .co [1, 1, 1, 1, 1, 1, 0, 1, 0, 1], .co [1, 1, 1, 1, 1, 1, 1]] [(2, .pointer (some (⟨g7, 0, none⟩))), (4, .pointer (some (⟨g11, 0, none⟩))), (64, .pointer (some (⟨g7, 2, none⟩)))] (by kernel_rfl) ?_
              refine st (stR none 3 g7 2 (.int .i64 2) #[.slice A m c, .int .i64 most, .int .i64 e0] 54 (by kernel_rfl) (by kernel_rfl) rfl hg7_76 (by simp) ?_)
              intro w79 hx79 hg79 hz79
              replace ho_76 := own_kp ho_76 hx79 (fun k hk (e : k = g7) => by have h1 := own_ge ho_76 hk.symm; first | omega | (have h2 := hlt0 k hk.symm; omega) | (have h2 := hlt6 k hk.symm; omega) | (have h2 := hlt8 k hk.symm; omega) | (have h2 := hlt10 k hk.symm; omega) | (have h2 := hlt75 k hk.symm; omega))
              replace hg11_76 := hx79.blk hg11_76 (fun e => by have e : g11 = g7 := e; omega)
              replace hF := hF.step hx79 (fun k hk hlt => by have hk : k = g7 := hk; omega)
              replace hg79 : w79.heap[g7]? = some (.cells #[.slice A m c, .int .i64 most, .int .i64 2] 54 (0, 0)) := hg79
              refine seg 3 [.op [1, 1, 1, 1, 1, 1, 0, 1, 0, 1, 0] 0, .co [1, 1, 1, 1, 1, 1, 0, 1, 0, 1, 1], .co [1, 1, 1, 1, 1, 1, 1]] [(2, .pointer (some (⟨g7, 0, none⟩))), (4, .pointer (some (⟨g11, 0, none⟩)))] (by kernel_rfl) ?_
              refine st (ldAggR (some 65) 54 (⟨g7, 0, none⟩) [.slice A m c, .int .i64 most, .int .i64 2] (by kernel_rfl) (by kernel_rfl) (blk_cells hg79 (by kernel_rfl)) ?_)
              refine st (stAggR none 54 g11 0 [.slice A m c, .int .i64 most, .int .i64 2] #[.slice none 0 0, .int .i64 0, .int .i64 0] #[.slice A m c, .int .i64 most, .int .i64 2] 54 (by kernel_rfl) (by kernel_rfl) (by rfl) hg11_76 (by simp) (by rfl) ?_)
              intro w80 hx80 hg80 hz80
              replace ho_76 := own_kp ho_76 hx80 (fun k hk (e : k = g11) => by have h1 := own_ge ho_76 hk.symm; first | omega | (have h2 := hlt0 k hk.symm; omega) | (have h2 := hlt6 k hk.symm; omega) | (have h2 := hlt8 k hk.symm; omega) | (have h2 := hlt10 k hk.symm; omega) | (have h2 := hlt75 k hk.symm; omega))
              replace hF := hF.step hx80 (fun k hk hlt => by have hk : k = g11 := hk; omega)
              refine seg 1 [.co [1, 1, 1, 1, 1, 1, 0, 1, 0, 1, 1], .co [1, 1, 1, 1, 1, 1, 1]] [(4, .pointer (some (⟨g11, 0, none⟩)))] (by kernel_rfl) ?_
              refine retC [.agg #[.slice A m c, .int .i64 most, .int .i64 2]] (by kernel_rfl) ⟨⟨_, rfl, ldv_agg 54 (⟨g11, 0, none⟩) [.slice A m c, .int .i64 most, .int .i64 2] (by kernel_rfl) (blk_cells hg80 (by rfl))⟩, trivial⟩ ?_
              have ee : (addE (max most 0) l.length e0 (actE1 x.Do x.N x.V x.B.l) (actM x.Do x.N x.B.l)) = 2 := by
                rw [← hml]
                simp [addE, actE1, actM, putE, h12, h14, h48, h70, h77, h78] <;> omega
              rw [ee]
              have ez : (2 : Int) ≠ 0 := by first | assumption | decide
              have el : addL l (2) (actX x.Do x.N x.V x.B.l) = l := by simp only [addL, ez, if_false]
              rw [el, ← hml]
              exact ⟨_, rfl, _, _, rfl, hF, ho_76, fun k hk => .inl hk⟩
            · rw [hb78]
              have h78 := of_decide_eq_false hb78
              refine seg 4 [.op [1, 1, 1, 1, 1, 1, 1, 0] 0, .co [1, 1, 1, 1, 1, 1, 1, 1]] [(2, .pointer (some (⟨g7, 0, none⟩))), (4, .pointer (some (⟨g11, 0, none⟩))), (5, .slice A76 (2 + x.B.l.length) c76)] (by kernel_rfl) ?_
              have hlt81 := own_lt ho_76
              have hlt82 := own_lt hn76
              refine st (newR (some 66) (fun g => .slice (some ⟨g, 0, none⟩) 0 0) (.cells #[] 5) (by kernel_rfl) ?_)
              intro g83 w83 hgs83 hx83 hg83 hz83
              replace ho_76 := own_ex ho_76 hx83
              replace hn76 := own_ex hn76 hx83
              replace hg7_76 := hx83.blk hg7_76 (fun e => e)
              replace hg11_76 := hx83.blk hg11_76 (fun e => e)
              replace hF := hF.ex hx83
              refine seg 1 [.op [1, 1, 1, 1, 1, 1, 1, 0] 2, .co [1, 1, 1, 1, 1, 1, 1, 1]] [(2, .pointer (some (⟨g7, 0, none⟩))), (4, .pointer (some (⟨g11, 0, none⟩))), (5, .slice A76 (2 + x.B.l.length) c76), (66, .slice (some ⟨g83, 0, none⟩) 0 0), (67, .pointer (some (⟨g7, 0, none⟩)))] (by kernel_rfl) ?_
              refine st (ldR (some 68) 22 (⟨g7, 0, none⟩) (.slice A m c) (by kernel_rfl) (by kernel_rfl) (blk_cell hg7_76 rfl) ?_)
              have ho84 := own_of_blk (base := g83) (n := 0) (sz := 1) hg83 (by omega) (by simp [maxLen]) (by simp)
              refine st (appR (some 69) 22 5 1 1 (.int .u8 0) 22 g83 (some ⟨g83, 0, none⟩) A 0 0 m c ([]) (bs l) ⟨Try.underlying22, by kernel_rfl⟩ rfl (by decide) (by kernel_rfl) ho84 (Cs.of_own ho_76) (by first | (have := ho_76.1; omega) | (rw [bs_length]; omega)) (bs_one _) (by omega) (by decide) (by omega) ?_)
              intro A85 c85 w85 hn85 hx85 hb85 hc85 hz85
              replace ho_76 := own_kp ho_76 hx85 (fun k hk e => by have h1 := own_ge ho_76 hk.symm; first | (have h2 := own_ge ho84 e; omega) | (have h2 := own_ge ho84 e; have h3 := hlt0 k hk.symm; omega) | (have h2 := own_ge ho84 e; have h3 := hlt6 k hk.symm; omega) | (have h2 := own_ge ho84 e; have h3 := hlt8 k hk.symm; omega) | (have h2 := own_ge ho84 e; have h3 := hlt10 k hk.symm; omega) | (have h2 := own_ge ho84 e; have h3 := hlt75 k hk.symm; omega) | (have h2 := own_ge ho84 e; have h3 := hlt81 k hk.symm; omega))
              replace hn76 := own_kp hn76 hx85 (fun k hk e => by have h1 := own_ge hn76 hk.symm; first | (have h2 := own_ge ho84 e; omega) | (have h2 := own_ge ho84 e; have h3 := hlt82 k hk.symm; omega))
              replace hg7_76 := hx85.blk hg7_76 (fun e => by first | (have := own_ge ho84 e; omega))
              replace hg11_76 := hx85.blk hg11_76 (fun e => by first | (have := own_ge ho84 e; omega))
              replace hF := hF.step hx85 (fun k hk hlt => absurd (own_ge ho84 hk) (by omega))
              rw [List.nil_append] at hn85
              rw [Nat.zero_add] at hn85 hc85 ⊢
              refine seg 1 [.op [1, 1, 1, 1, 1, 1, 1, 0] 5, .co [1, 1, 1, 1, 1, 1, 1, 1]] [(2, .pointer (some (⟨g7, 0, none⟩))), (4, .pointer (some (⟨g11, 0, none⟩))), (69, .slice A85 m c85), (70, .slice A76 (2 + x.B.l.length) c76)] (by kernel_rfl) ?_
              refine st (appR (some 71) 22 5 1 1 (.int .u8 0) 22 g83 A85 A76 m c85 (2 + x.B.l.length) c76 (bs l) (bs ((enc 2 x.B.l.length) ++ x.B.l)) ⟨Try.underlying22, by kernel_rfl⟩ rfl (by decide) (by kernel_rfl) hn85 (Cs.of_own hn76) (by first | (have := hn76.1; omega) | (rw [bs_length]; omega)) (bs_one _) (by omega) (by decide) (by omega) ?_)
              intro A86 c86 w86 hn86 hx86 hb86 hc86 hz86
              replace ho_76 := own_kp ho_76 hx86 (fun k hk e => by have h1 := own_ge ho_76 hk.symm; first | (have h2 := own_ge hn85 e; omega) | (have h2 := own_ge hn85 e; have h3 := hlt0 k hk.symm; omega) | (have h2 := own_ge hn85 e; have h3 := hlt6 k hk.symm; omega) | (have h2 := own_ge hn85 e; have h3 := hlt8 k hk.symm; omega) | (have h2 := own_ge hn85 e; have h3 := hlt10 k hk.symm; omega) | (have h2 := own_ge hn85 e; have h3 := hlt75 k hk.symm; omega) | (have h2 := own_ge hn85 e; have h3 := hlt81 k hk.symm; omega))
              replace hg7_76 := hx86.blk hg7_76 (fun e => by first | (have := own_ge hn85 e; omega))
              replace hg11_76 := hx86.blk hg11_76 (fun e => by first | (have := own_ge hn85 e; omega))
              replace hF := hF.step hx86 (fun k hk hlt => absurd (own_ge hn85 hk) (by omega))
              rw [← bs_append] at hn86
              refine seg 1 [.op [1, 1, 1, 1, 1, 1, 1, 0] 7, .co [1, 1, 1, 1, 1, 1, 1, 1]] [(2, .pointer (some (⟨g7, 0, none⟩))), (4, .pointer (some (⟨g11, 0, none⟩))), (71, .slice A86 (m + (2 + x.B.l.length)) c86), (72, .pointer (some (⟨g7, 0, none⟩)))] (by kernel_rfl) ?_
              refine st (stR none 22 g7 0 (.slice A86 (m + (2 + x.B.l.length)) c86) #[.slice A m c, .int .i64 most, .int .i64 e0] 54 (by kernel_rfl) (by kernel_rfl) rfl hg7_76 (by simp) ?_)
              intro w87 hx87 hg87 hz87
              replace ho_76 := own_kp ho_76 hx87 (fun k hk (e : k = g7) => by have h1 := own_ge ho_76 hk.symm; first | omega | (have h2 := hlt0 k hk.symm; omega) | (have h2 := hlt6 k hk.symm; omega) | (have h2 := hlt8 k hk.symm; omega) | (have h2 := hlt10 k hk.symm; omega) | (have h2 := hlt75 k hk.symm; omega) | (have h2 := hlt81 k hk.symm; omega))
              replace hn86 := own_kp hn86 hx87 (fun k hk (e : k = g7) => by have h1 := own_ge hn86 hk.symm; first | omega)
              replace hg11_76 := hx87.blk hg11_76 (fun e => by have e : g11 = g7 := e; omega)
              replace hF := hF.step hx87 (fun k hk hlt => by have hk : k = g7 := hk; omega)
              replace hg87 : w87.heap[g7]? = some (.cells #[.slice A86 (m + (2 + x.B.l.length)) c86, .int .i64 most, .int .i64 e0] 54 (0, 0)) := hg87
              refine seg 3 [.op [1, 1, 1, 1, 1, 1, 1, 1, 0] 0, .co [1, 1, 1, 1, 1, 1, 1, 1, 1]] [(2, .pointer (some (⟨g7, 0, none⟩))), (4, .pointer (some (⟨g11, 0, none⟩)))] (by kernel_rfl) ?_
              refine st (ldAggR (some 73) 54 (⟨g7, 0, none⟩) [.slice A86 (m + (2 + x.B.l.length)) c86, .int .i64 most, .int .i64 e0] (by kernel_rfl) (by kernel_rfl) (blk_cells hg87 (by kernel_rfl)) ?_)
              refine st (stAggR none 54 g11 0 [.slice A86 (m + (2 + x.B.l.length)) c86, .int .i64 most, .int .i64 e0] #[.slice none 0 0, .int .i64 0, .int .i64 0] #[.slice A86 (m + (2 + x.B.l.length)) c86, .int .i64 most, .int .i64 e0] 54 (by kernel_rfl) (by kernel_rfl) (by rfl) hg11_76 (by simp) (by rfl) ?_)
              intro w88 hx88 hg88 hz88
              replace ho_76 := own_kp ho_76 hx88 (fun k hk (e : k = g11) => by have h1 := own_ge ho_76 hk.symm; first | omega | (have h2 := hlt0 k hk.symm; omega) | (have h2 := hlt6 k hk.symm; omega) | (have h2 := hlt8 k hk.symm; omega) | (have h2 := hlt10 k hk.symm; omega) | (have h2 := hlt75 k hk.symm; omega) | (have h2 := hlt81 k hk.symm; omega))
              replace hn86 := own_kp hn86 hx88 (fun k hk (e : k = g11) => by have h1 := own_ge hn86 hk.symm; first | omega)
              replace hF := hF.step hx88 (fun k hk hlt => by have hk : k = g11 := hk; omega)
              refine seg 1 [.co [1, 1, 1, 1, 1, 1, 1, 1, 1]] [(4, .pointer (some (⟨g11, 0, none⟩)))] (by kernel_rfl) ?_
              refine retC [.agg #[.slice A86 (m + (2 + x.B.l.length)) c86, .int .i64 most, .int .i64 e0]] (by kernel_rfl) ⟨⟨_, rfl, ldv_agg 54 (⟨g11, 0, none⟩) [.slice A86 (m + (2 + x.B.l.length)) c86, .int .i64 most, .int .i64 e0] (by kernel_rfl) (blk_cells hg88 (by rfl))⟩, trivial⟩ ?_
              have ee : (addE (max most 0) l.length e0 (actE1 x.Do x.N x.V x.B.l) (actM x.Do x.N x.B.l)) = e0 := by
                rw [← hml]
                simp [addE, actE1, actM, putE, h12, h14, h48, h70, h77, h78] <;> omega
              rw [ee]
              obtain rfl : e0 = 0 := h12
              have hfin := hn86
              have ex : addL l 0 (actX x.Do x.N x.V x.B.l) = l ++ ((enc 2 x.B.l.length) ++ x.B.l) := by simp [addL, actX, h14, h48]
              rw [ex]
              have el : (l ++ ((enc 2 x.B.l.length) ++ x.B.l)).length = m + (2 + x.B.l.length) := by simp only [List.length_append, enc_length] at *; omega
              rw [el]
              exact ⟨_, rfl, _, _, rfl, hF, own_base' hfin (by omega), fun k hk => .inr (by have := own_ge hfin hk.symm; omega)⟩
          · rw [hb77]
            have h77 := of_decide_eq_false hb77
            refine seg 9 [.op [1, 1, 1, 1, 1, 1, 0, 0] 4, .co [1, 1, 1, 1, 1, 1, 0, 1], .co [1, 1, 1, 1, 1, 1, 1]] [(2, .pointer (some (⟨g7, 0, none⟩))), (4, .pointer (some (⟨g11, 0, none⟩))), (5, .slice A76 (2 + x.B.l.length) c76), (57, .int .i64 (2 + x.B.l.length : Int)), (58, .int .i64 most), (59, .pointer (some (⟨g7, 0, none⟩)))] (by kernel_rfl) ?_
            refine st (ldR (some 60) 22 (⟨g7, 0, none⟩) (.slice A m c) (by kernel_rfl) (by kernel_rfl) (blk_cell hg7_76 rfl) ?_)
            refine seg 4 [.co [1, 1, 1, 1, 1, 1, 0, 1], .co [1, 1, 1, 1, 1, 1, 1]] [(2, .pointer (some (⟨g7, 0, none⟩))), (4, .pointer (some (⟨g11, 0, none⟩))), (5, .slice A76 (2 + x.B.l.length) c76), (63, .bool (decide ((2 + x.B.l.length : Int) > (IntKind.i64.wrap (most - (m : Int))))))] (by kernel_rfl) ?_
            rw [show IntKind.i64.wrap (most - (m : Int)) = (most - (m : Int)) from w64 (by omega)]
            rcases bsplit (decide ((2 + x.B.l.length : Int) > (most - (m : Int)))) with hb89 | hb89
            · rw [hb89]
              have h89 := of_decide_eq_true hb89
              refine seg 4 [.op [1, 1, 1, 1, 1, 1, 0, 1, 0, 0] 1, .co [1, 1, 1, 1, 1, 1, 0, 1, 0, 1], .co [1, 1, 1, 1, 1, 1, 1]] [(2, .pointer (some (⟨g7, 0, none⟩))), (4, .pointer (some (⟨g11, 0, none⟩))), (64, .pointer (some (⟨g7, 2, none⟩)))] (by kernel_rfl) ?_
              refine st (stR none 3 g7 2 (.int .i64 2) #[.slice A m c, .int .i64 most, .int .i64 e0] 54 (by kernel_rfl) (by kernel_rfl) rfl hg7_76 (by simp) ?_)
              intro w90 hx90 hg90 hz90
              replace ho_76 := own_kp ho_76 hx90 (fun k hk (e : k = g7) => by have h1 := own_ge ho_76 hk.symm; first | omega | (have h2 := hlt0 k hk.symm; omega) | (have h2 := hlt6 k hk.symm; omega) | (have h2 := hlt8 k hk.symm; omega) | (have h2 := hlt10 k hk.symm; omega) | (have h2 := hlt75 k hk.symm; omega))
              replace hg11_76 := hx90.blk hg11_76 (fun e => by have e : g11 = g7 := e; omega)
              replace hF := hF.step hx90 (fun k hk hlt => by have hk : k = g7 := hk; omega)
              replace hg90 : w90.heap[g7]? = some (.cells #[.slice A m c, .int .i64 most, .int .i64 2] 54 (0, 0)) := hg90
              refine seg 3 [.op [1, 1, 1, 1, 1, 1, 0, 1, 0, 1, 0] 0, .co [1, 1, 1, 1, 1, 1, 0, 1, 0, 1, 1], .co [1, 1, 1, 1, 1, 1, 1]] [(2, .pointer (some (⟨g7, 0, none⟩))), (4, .pointer (some (⟨g11, 0, none⟩)))] (by kernel_rfl) ?_
              refine st (ldAggR (some 65) 54 (⟨g7, 0, none⟩) [.slice A m c, .int .i64 most, .int .i64 2] (by kernel_rfl) (by kernel_rfl) (blk_cells hg90 (by kernel_rfl)) ?_)
              refine st (stAggR none 54 g11 0 [.slice A m c, .int .i64 most, .int .i64 2] #[.slice none 0 0, .int .i64 0, .int .i64 0] #[.slice A m c, .int .i64 most, .int .i64 2] 54 (by kernel_rfl) (by kernel_rfl) (by rfl) hg11_76 (by simp) (by rfl) ?_)
              intro w91 hx91 hg91 hz91
              replace ho_76 := own_kp ho_76 hx91 (fun k hk (e : k = g11) => by have h1 := own_ge ho_76 hk.symm; first | omega | (have h2 := hlt0 k hk.symm; omega) | (have h2 := hlt6 k hk.symm; omega) | (have h2 := hlt8 k hk.symm; omega) | (have h2 := hlt10 k hk.symm; omega) | (have h2 := hlt75 k hk.symm; omega))
              replace hF := hF.step hx91 (fun k hk hlt => by have hk : k = g11 := hk; omega)
              refine seg 1 [.co [1, 1, 1, 1, 1, 1, 0, 1, 0, 1, 1], .co [1, 1, 1, 1, 1, 1, 1]] [(4, .pointer (some (⟨g11, 0, none⟩)))] (by kernel_rfl) ?_
              refine retC [.agg #[.slice A m c, .int .i64 most, .int .i64 2]] (by kernel_rfl) ⟨⟨_, rfl, ldv_agg 54 (⟨g11, 0, none⟩) [.slice A m c, .int .i64 most, .int .i64 2] (by kernel_rfl) (blk_cells hg91 (by rfl))⟩, trivial⟩ ?_
              have ee : (addE (max most 0) l.length e0 (actE1 x.Do x.N x.V x.B.l) (actM x.Do x.N x.B.l)) = 2 := by
                rw [← hml]
                simp [addE, actE1, actM, putE, h12, h14, h48, h70, h77, h89] <;> omega
              rw [ee]
              have ez : (2 : Int) ≠ 0 := by first | assumption | decide
              have el : addL l (2) (actX x.Do x.N x.V x.B.l) = l := by simp only [addL, ez, if_false]
              rw [el, ← hml]
              exact ⟨_, rfl, _, _, rfl, hF, ho_76, fun k hk => .inl hk⟩
            · rw [hb89]
              have h89 := of_decide_eq_false hb89
              refine seg 4 [.op [1, 1, 1, 1, 1, 1, 1, 0] 0, .co [1, 1, 1, 1, 1, 1, 1, 1]] [(2, .pointer (some (⟨g7, 0, none⟩))), (4, .pointer (some (⟨g11, 0, none⟩))), (5, .slice A76 (2 + x.B.l.length) c76)] (by kernel_rfl) ?_
              have hlt92 := own_lt ho_76
              have hlt93 := own_lt hn76
              refine st (newR (some 66) (fun g => .slice (some ⟨g, 0, none⟩) 0 0) (.cells #[] 5) (by kernel_rfl) ?_)
              intro g94 w94 hgs94 hx94 hg94 hz94
              replace ho_76 := own_ex ho_76 hx94
              replace hn76 := own_ex hn76 hx94
              replace hg7_76 := hx94.blk hg7_76 (fun e => e)
              replace hg11_76 := hx94.blk hg11_76 (fun e => e)
              replace hF := hF.ex hx94
              refine seg 1 [.op [1, 1, 1, 1, 1, 1, 1, 0] 2, .co [1, 1, 1, 1, 1, 1, 1, 1]] [(2, .pointer (some (⟨g7, 0, none⟩))), (4, .pointer (some (⟨g11, 0, none⟩))), (5, .slice A76 (2 + x.B.l.length) c76), (66, .slice (some ⟨g94, 0, none⟩) 0 0), (67, .pointer (some (⟨g7, 0, none⟩)))] (by kernel_rfl) ?_
              refine st (ldR (some 68) 22 (⟨g7, 0, none⟩) (.slice A m c) (by kernel_rfl) (by kernel_rfl) (blk_cell hg7_76 rfl) ?_)
              have ho95 := own_of_blk (base := g94) (n := 0) (sz := 1) hg94 (by omega) (by simp [maxLen]) (by simp)
              refine st (appR (some 69) 22 5 1 1 (.int .u8 0) 22 g94 (some ⟨g94, 0, none⟩) A 0 0 m c ([]) (bs l) ⟨Try.underlying22, by kernel_rfl⟩ rfl (by decide) (by kernel_rfl) ho95 (Cs.of_own ho_76) (by first | (have := ho_76.1; omega) | (rw [bs_length]; omega)) (bs_one _) (by omega) (by decide) (by omega) ?_)
              intro A96 c96 w96 hn96 hx96 hb96 hc96 hz96
              replace ho_76 := own_kp ho_76 hx96 (fun k hk e => by have h1 := own_ge ho_76 hk.symm; first | (have h2 := own_ge ho95 e; omega) | (have h2 := own_ge ho95 e; have h3 := hlt0 k hk.symm; omega) | (have h2 := own_ge ho95 e; have h3 := hlt6 k hk.symm; omega) | (have h2 := own_ge ho95 e; have h3 := hlt8 k hk.symm; omega) | (have h2 := own_ge ho95 e; have h3 := hlt10 k hk.symm; omega) | (have h2 := own_ge ho95 e; have h3 := hlt75 k hk.symm; omega) | (have h2 := own_ge ho95 e; have h3 := hlt92 k hk.symm; omega))
              replace hn76 := own_kp hn76 hx96 (fun k hk e => by have h1 := own_ge hn76 hk.symm; first | (have h2 := own_ge ho95 e; omega) | (have h2 := own_ge ho95 e; have h3 := hlt93 k hk.symm; omega))
              replace hg7_76 := hx96.blk hg7_76 (fun e => by first | (have := own_ge ho95 e; omega))
              replace hg11_76 := hx96.blk hg11_76 (fun e => by first | (have := own_ge ho95 e; omega))
              replace hF := hF.step hx96 (fun k hk hlt => absurd (own_ge ho95 hk) (by omega))
              rw [List.nil_append] at hn96
              rw [Nat.zero_add] at hn96 hc96 ⊢
              refine seg 1 [.op [1, 1, 1, 1, 1, 1, 1, 0] 5, .co [1, 1, 1, 1, 1, 1, 1, 1]] [(2, .pointer (some (⟨g7, 0, none⟩))), (4, .pointer (some (⟨g11, 0, none⟩))), (69, .slice A96 m c96), (70, .slice A76 (2 + x.B.l.length) c76)] (by kernel_rfl) ?_
              refine st (appR (some 71) 22 5 1 1 (.int .u8 0) 22 g94 A96 A76 m c96 (2 + x.B.l.length) c76 (bs l) (bs ((enc 2 x.B.l.length) ++ x.B.l)) ⟨Try.underlying22, by kernel_rfl⟩ rfl (by decide) (by kernel_rfl) hn96 (Cs.of_own hn76) (by first | (have := hn76.1; omega) | (rw [bs_length]; omega)) (bs_one _) (by omega) (by decide) (by omega) ?_)
              intro A97 c97 w97 hn97 hx97 hb97 hc97 hz97
              replace ho_76 := own_kp ho_76 hx97 (fun k hk e => by have h1 := own_ge ho_76 hk.symm; first | (have h2 := own_ge hn96 e; omega) | (have h2 := own_ge hn96 e; have h3 := hlt0 k hk.symm; omega) | (have h2 := own_ge hn96 e; have h3 := hlt6 k hk.symm; omega) | (have h2 := own_ge hn96 e; have h3 := hlt8 k hk.symm; omega) | (have h2 := own_ge hn96 e; have h3 := hlt10 k hk.symm; omega) | (have h2 := own_ge hn96 e; have h3 := hlt75 k hk.symm; omega) | (have h2 := own_ge hn96 e; have h3 := hlt92 k hk.symm; omega))
              replace hg7_76 := hx97.blk hg7_76 (fun e => by first | (have := own_ge hn96 e; omega))
              replace hg11_76 := hx97.blk hg11_76 (fun e => by first | (have := own_ge hn96 e; omega))
              replace hF := hF.step hx97 (fun k hk hlt => absurd (own_ge hn96 hk) (by omega))
              rw [← bs_append] at hn97
              refine seg 1 [.op [1, 1, 1, 1, 1, 1, 1, 0] 7, .co [1, 1, 1, 1, 1, 1, 1, 1]] [(2, .pointer (some (⟨g7, 0, none⟩))), (4, .pointer (some (⟨g11, 0, none⟩))), (71, .slice A97 (m + (2 + x.B.l.length)) c97), (72, .pointer (some (⟨g7, 0, none⟩)))] (by kernel_rfl) ?_
              refine st (stR none 22 g7 0 (.slice A97 (m + (2 + x.B.l.length)) c97) #[.slice A m c, .int .i64 most, .int .i64 e0] 54 (by kernel_rfl) (by kernel_rfl) rfl hg7_76 (by simp) ?_)
              intro w98 hx98 hg98 hz98
              replace ho_76 := own_kp ho_76 hx98 (fun k hk (e : k = g7) => by have h1 := own_ge ho_76 hk.symm; first | omega | (have h2 := hlt0 k hk.symm; omega) | (have h2 := hlt6 k hk.symm; omega) | (have h2 := hlt8 k hk.symm; omega) | (have h2 := hlt10 k hk.symm; omega) | (have h2 := hlt75 k hk.symm; omega) | (have h2 := hlt92 k hk.symm; omega))
              replace hn97 := own_kp hn97 hx98 (fun k hk (e : k = g7) => by have h1 := own_ge hn97 hk.symm; first | omega)
              replace hg11_76 := hx98.blk hg11_76 (fun e => by have e : g11 = g7 := e; omega)
              replace hF := hF.step hx98 (fun k hk hlt => by have hk : k = g7 := hk; omega)
              replace hg98 : w98.heap[g7]? = some (.cells #[.slice A97 (m + (2 + x.B.l.length)) c97, .int .i64 most, .int .i64 e0] 54 (0, 0)) := hg98
              refine seg 3 [.op [1, 1, 1, 1, 1, 1, 1, 1, 0] 0, .co [1, 1, 1, 1, 1, 1, 1, 1, 1]] [(2, .pointer (some (⟨g7, 0, none⟩))), (4, .pointer (some (⟨g11, 0, none⟩)))] (by kernel_rfl) ?_
              refine st (ldAggR (some 73) 54 (⟨g7, 0, none⟩) [.slice A97 (m + (2 + x.B.l.length)) c97, .int .i64 most, .int .i64 e0] (by kernel_rfl) (by kernel_rfl) (blk_cells hg98 (by kernel_rfl)) ?_)
              refine st (stAggR none 54 g11 0 [.slice A97 (m + (2 + x.B.l.length)) c97, .int .i64 most, .int .i64 e0] #[.slice none 0 0, .int .i64 0, .int .i64 0] #[.slice A97 (m + (2 + x.B.l.length)) c97, .int .i64 most, .int .i64 e0] 54 (by kernel_rfl) (by kernel_rfl) (by rfl) hg11_76 (by simp) (by rfl) ?_)
              intro w99 hx99 hg99 hz99
              replace ho_76 := own_kp ho_76 hx99 (fun k hk (e : k = g11) => by have h1 := own_ge ho_76 hk.symm; first | omega | (have h2 := hlt0 k hk.symm; omega) | (have h2 := hlt6 k hk.symm; omega) | (have h2 := hlt8 k hk.symm; omega) | (have h2 := hlt10 k hk.symm; omega) | (have h2 := hlt75 k hk.symm; omega) | (have h2 := hlt92 k hk.symm; omega))
              replace hn97 := own_kp hn97 hx99 (fun k hk (e : k = g11) => by have h1 := own_ge hn97 hk.symm; first | omega)
              replace hF := hF.step hx99 (fun k hk hlt => by have hk : k = g11 := hk; omega)
              refine seg 1 [.co [1, 1, 1, 1, 1, 1, 1, 1, 1]] [(4, .pointer (some (⟨g11, 0, none⟩)))] (by kernel_rfl) ?_
              refine retC [.agg #[.slice A97 (m + (2 + x.B.l.length)) c97, .int .i64 most, .int .i64 e0]] (by kernel_rfl) ⟨⟨_, rfl, ldv_agg 54 (⟨g11, 0, none⟩) [.slice A97 (m + (2 + x.B.l.length)) c97, .int .i64 most, .int .i64 e0] (by kernel_rfl) (blk_cells hg99 (by rfl))⟩, trivial⟩ ?_
              have ee : (addE (max most 0) l.length e0 (actE1 x.Do x.N x.V x.B.l) (actM x.Do x.N x.B.l)) = e0 := by
                rw [← hml]
                simp [addE, actE1, actM, putE, h12, h14, h48, h70, h77, h89] <;> omega
              rw [ee]
              obtain rfl : e0 = 0 := h12
              have hfin := hn97
              have ex : addL l 0 (actX x.Do x.N x.V x.B.l) = l ++ ((enc 2 x.B.l.length) ++ x.B.l) := by simp [addL, actX, h14, h48]
              rw [ex]
              have el : (l ++ ((enc 2 x.B.l.length) ++ x.B.l)).length = m + (2 + x.B.l.length) := by simp only [List.length_append, enc_length] at *; omega
              rw [el]
              exact ⟨_, rfl, _, _, rfl, hF, own_base' hfin (by omega), fun k hk => .inr (by have := own_ge hfin hk.symm; omega)⟩

end Go.Proofs.Ytgkiegplmohgkaa.F
