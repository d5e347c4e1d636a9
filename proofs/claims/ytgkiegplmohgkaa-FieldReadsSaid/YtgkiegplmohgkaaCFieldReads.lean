/- FieldReads: the walk. -/
import Derived.Test.YtgkiegplmohgkaaF2
import Derived.Test.YtgkiegplmohgkaaF4
import Derived.Test.YtgkiegplmohgkaaF5
import Derived.Test.YtgkiegplmohgkaaT
set_option linter.unusedVariables false
set_option linter.unusedSimpArgs false
namespace Go.Proofs.Ytgkiegplmohgkaa.F
open Go Go.RowKit Go.Proofs.Ytgkiegplmohgkaa.K
theorem fieldReads_c (w : World) (A : Option Addr) (len cap : Nat) {l : List UInt8} (h : Cs 0 w.heap.size w A (bs l)) (hl : l.length = len) (hcap : len ≤ cap) (hmax : cap ≤ maxLen) (s : Sls TAct) (hs : s.Ok 0 w.heap.size w) :
    Calls Try.prog 9 #[.slice A len cap, .slice s.A s.l.length s.c] w fun e w' => ∃ v, e = .returned v ∧ (v = .bool true ∧ Ex w w') := by
  refine callsR Try.func9 (by kernel_rfl) (by kernel_rfl) ?_
  have hmx : maxLen = 9223372036854775807 := rfl
  have hF : Ex w w := Kp.refl _ _
  subst hl
  have q1 : s.l.length ≤ s.c := Sls.Ok.le hs
  have q1m : s.c ≤ maxLen := Sls.Ok.max hs
  refine seg 11 [.op [1, 0, 0] 4, .co [1, 0, 1], .co [1, 1]] [(0, .slice A l.length cap), (1, .slice s.A s.l.length s.c), (20, .bool (decide ((l.length : Int) > 70000)))] (by kernel_rfl) ?_
  rcases bsplit (decide ((l.length : Int) > 70000)) with hb2 | hb2
  · rw [hb2]
    have h2 := of_decide_eq_true hb2
    refine seg 8 [.op [1, 0, 1, 0, 0] 0, .co [1, 0, 1, 0, 1], .co [1, 1]] [] (by kernel_rfl) ?_
    refine st (callR (some 25) 15 #[] Try.call15 (live_c w) (by kernel_rfl) ?_)
    rintro _ w3 ⟨rfl, hx3⟩
    have hz3 := hx3.size
    replace h := h.ex hx3
    replace hF := hF.ex hx3
    refine seg 2 [.co [1, 0, 1, 0, 1], .co [1, 1]] [(4, .bool true)] (by kernel_rfl) ?_
    refine retR [4] [.bool true] (by kernel_rfl) (by kernel_rfl) (by kernel_rfl) ?_
    exact ⟨_, rfl, rfl, hF⟩
  · rw [hb2]
    have h2 := of_decide_eq_false hb2
    refine seg 5 [.co [1, 0, 1], .co [1, 1]] [(0, .slice A l.length cap), (1, .slice s.A s.l.length s.c), (24, .bool (decide ((s.l.length : Int) > 100)))] (by kernel_rfl) ?_
    rcases bsplit (decide ((s.l.length : Int) > 100)) with hb4 | hb4
    · rw [hb4]
      have h4 := of_decide_eq_true hb4
      refine seg 3 [.op [1, 0, 1, 0, 0] 0, .co [1, 0, 1, 0, 1], .co [1, 1]] [] (by kernel_rfl) ?_
      refine st (callR (some 25) 15 #[] Try.call15 (live_c w) (by kernel_rfl) ?_)
      rintro _ w5 ⟨rfl, hx5⟩
      have hz5 := hx5.size
      replace h := h.ex hx5
      replace hF := hF.ex hx5
      refine seg 2 [.co [1, 0, 1, 0, 1], .co [1, 1]] [(4, .bool true)] (by kernel_rfl) ?_
      refine retR [4] [.bool true] (by kernel_rfl) (by kernel_rfl) (by kernel_rfl) ?_
      exact ⟨_, rfl, rfl, hF⟩
    · rw [hb4]
      have h4 := of_decide_eq_false hb4
      refine seg 4 [.op [1, 1, 0] 0, .co [1, 1, 1]] [(0, .slice A l.length cap), (1, .slice s.A s.l.length s.c)] (by kernel_rfl) ?_
      refine st (newR (some 26) (fun g => .slice (some ⟨g, 0, none⟩) 0 0) (.cells #[] 5) (by kernel_rfl) ?_)
      intro g6 w6 hgs6 hx6 hg6 hz6
      replace h := h.ex hx6
      replace hs : Sls.Ok _ _ _ s := Dat.kp (a := s) hs hx6 (fun _ e => e.elim)
      replace hF := hF.ex hx6
      refine seg 1 [.op [1, 1, 0] 2, .co [1, 1, 1]] [(0, .slice A l.length cap), (1, .slice s.A s.l.length s.c), (26, .slice (some ⟨g6, 0, none⟩) 0 0), (27, .slice A l.length cap)] (by kernel_rfl) ?_
      have ho7 := own_of_blk (base := w.heap.size) (n := 0) (sz := 1) hg6 (by omega) (by simp [maxLen]) (by simp)
      refine st (appR (some 28) 22 5 1 1 (.int .u8 0) 22 w.heap.size (some ⟨g6, 0, none⟩) A 0 0 l.length cap ([]) (bs l) ⟨Try.underlying22, by kernel_rfl⟩ rfl (by decide) (by kernel_rfl) ho7 h (by first | (rw [bs_length]; omega) | (simp [bs_length]; omega)) (bs_one _) (by omega) (by decide) (by omega) ?_)
      intro A8 c8 w8 hn8 hx8 hb8 hc8 hz8
      replace h := h.kp hx8 (fun k hk => by first | exact .inr (by have := own_ge ho7 hk; omega))
      replace hs : Sls.Ok _ _ _ s := Dat.kp (a := s) hs hx8 (fun k hk => by first | exact .inr (by have := own_ge ho7 hk; omega))
      replace hF := hF.step hx8 (fun k hk hlt => absurd (own_ge ho7 hk) (by omega))
      rw [List.nil_append] at hn8
      rw [Nat.zero_add] at hn8 hc8 ⊢
      refine seg 5 [.op [1, 1, 1, 0] 1, .co [1, 1, 1, 1]] [(0, .slice A l.length cap), (1, .slice s.A s.l.length s.c), (5, .slice A8 l.length c8), (29, .slice A8 l.length c8)] (by kernel_rfl) ?_
      have hll9 : (l).length = l.length := (by first | rfl | omega | (simp; omega))
      have hlt10 := own_lt hn8
      refine st (callR (some 30) 37 #[.slice A8 l.length c8] Try.call37 (rnew_c w8 A8 l.length c8 (Cs.of_own hn8) hll9 (by omega)) (by kernel_rfl) ?_)
      rintro _ w9 ⟨g9, A9, c9, rfl, hx9, hg9, hs9, hgl9, hnc9, hgh9⟩
      have hz9 := hx9.size
      replace h := h.ex hx9
      replace hn8 := own_ex hn8 hx9
      replace hs : Sls.Ok _ _ _ s := Dat.kp (a := s) hs hx9 (fun _ e => e.elim)
      replace hF := hF.ex hx9
      refine seg 6 [.op [1, 1, 1, 1, 0] 2, .co [1, 1, 1, 1, 1]] [(0, .slice A l.length cap), (1, .slice s.A s.l.length s.c), (5, .slice A8 l.length c8), (6, .pointer (some (⟨g9, 0, none⟩))), (32, .agg #[.slice A l.length cap, .int .i64 0, .int .i64 0])] (by kernel_rfl) ?_
      have hlt11 := own_lt hn8
      refine st (newR (some 7) (fun g => .pointer (some ⟨g, 0, none⟩)) (.cells #[.slice none 0 0, .int .i64 0, .int .i64 0] 66) (by kernel_rfl) ?_)
      intro g12 w12 hgs12 hx12 hg12 hz12
      replace h := h.ex hx12
      replace hs9 := hs9.ex hx12
      replace hn8 := own_ex hn8 hx12
      replace hs : Sls.Ok _ _ _ s := Dat.kp (a := s) hs hx12 (fun _ e => e.elim)
      replace hg9 := hx12.blk hg9 (fun e => e)
      replace hF := hF.ex hx12
      refine st (stAggR none 66 g12 0 [.slice A l.length cap, .int .i64 0, .int .i64 0] #[.slice none 0 0, .int .i64 0, .int .i64 0] #[.slice A l.length cap, .int .i64 0, .int .i64 0] 66 (by kernel_rfl) (by kernel_rfl) (by rfl) hg12 (by simp) (by rfl) ?_)
      intro w13 hx13 hg13 hz13
      replace h := h.kp hx13 (fun k (hk : k = g12) => by omega)
      replace hs9 := hs9.kp hx13 (fun k (hk : k = g12) => by omega)
      replace hn8 := own_kp hn8 hx13 (fun k hk (e : k = g12) => by have h1 := own_ge hn8 hk.symm; first | omega | (have h2 := hlt10 k hk.symm; omega) | (have h2 := hlt11 k hk.symm; omega))
      replace hs : Sls.Ok _ _ _ s := Dat.kp (a := s) hs hx13 (fun k (hk : k = g12) => by omega)
      replace hg9 := hx13.blk hg9 (fun e => by have e : g9 = g12 := e; omega)
      replace hF := hF.step hx13 (fun k hk hlt => by have hk : k = g12 := hk; omega)
      refine seg 7 [.co [1, 1, 1, 1, 1, 0, 1, 0], .bl 0, .co [1, 1, 1, 1, 1, 1]] [(0, .slice A l.length cap), (1, .slice s.A s.l.length s.c), (5, .slice A8 l.length c8), (6, .pointer (some (⟨g9, 0, none⟩))), (7, .pointer (some (⟨g12, 0, none⟩))), (8, .int .i64 0)] (by kernel_rfl) ?_
      refine loopR 0 (fun (x : Nat × List UInt8) => [(0, .slice A l.length cap), (1, .slice s.A s.l.length s.c), (5, .slice A8 l.length c8), (6, .pointer (some (⟨g9, 0, none⟩))), (7, .pointer (some (⟨g12, 0, none⟩))), (8, .int .i64 (x.1 : Int))]) (fun (x : Nat × List UInt8) (wl14 : World) => (x.1 ≤ l.length) ∧ (x.2.length = l.length) ∧ Cs 0 w.heap.size wl14 A (bs l) ∧ Cs w8.heap.size g9 wl14 A9 (bs l) ∧ Sls.Ok 0 w.heap.size wl14 s ∧ wl14.ownsRow w.heap.size 5 1 (.slice A8 l.length c8) l.length (bs x.2) ∧ wl14.heap[g9]? = some (.cells #[.slice A9 l.length c9, .int .i64 0, .int .i64 0] 98 (0, 0)) ∧ wl14.heap[g12]? = some (.cells #[.slice A l.length cap, .int .i64 0, .int .i64 0] 66 (0, 0)) ∧ Ex w wl14) (fun (x : Nat × List UInt8) => l.length - x.1) (0, l) (by kernel_rfl) (by kernel_rfl) (by kernel_rfl) ?_ ?_
      · exact ⟨Nat.zero_le _, rfl, h, hs9, hs, hn8, hg9, hg13, hF⟩
      rintro ⟨k, m⟩ wl14 ⟨hk, hm, hc15, hc16, hd17, hn18, hg19, hg20, hF⟩
      try dsimp only at hk
      try dsimp only at hm
      try dsimp only at hc15
      try dsimp only at hc16
      try dsimp only at hd17
      try dsimp only at hn18
      try dsimp only at hg19
      try dsimp only at hg20
      try dsimp only at hF
      have hzwl14 := hF.size
      have hbl21 := blk_lt hg19
      have hbl22 := blk_lt hg20
      refine seg 8 [.co [1, 1, 1, 1, 1, 0, 1, 0, 0, 0, 1], .co [1, 1, 1, 1, 1, 0, 1, 0, 0, 1], .le 0, .bl 0, .co [1, 1, 1, 1, 1, 1]] [(0, .slice A l.length cap), (1, .slice s.A s.l.length s.c), (5, .slice A8 l.length c8), (6, .pointer (some (⟨g9, 0, none⟩))), (7, .pointer (some (⟨g12, 0, none⟩))), (8, .int .i64 (k : Int)), (36, .bool (decide ((k : Int) < (l.length : Int))))] (by kernel_rfl) ?_
      rcases bsplit (decide ((k : Int) < (l.length : Int))) with hb23 | hb23
      · rw [hb23]
        have h23 := of_decide_eq_true hb23
        refine seg 7 [.op [1, 1, 1, 1, 1, 0, 1, 0, 0, 1, 0, 0] 2, .bl 1, .co [1, 1, 1, 1, 1, 0, 1, 0, 0, 1, 1], .le 0, .bl 0, .co [1, 1, 1, 1, 1, 1]] [(0, .slice A l.length cap), (1, .slice s.A s.l.length s.c), (5, .slice A8 l.length c8), (6, .pointer (some (⟨g9, 0, none⟩))), (7, .pointer (some (⟨g12, 0, none⟩))), (8, .int .i64 (k : Int)), (39, .slice A8 l.length c8), (40, .int .i64 (k : Int))] (by kernel_rfl) ?_
        have u25 := UInt8.toNat_lt (m.getD k 0)
        obtain ⟨ad24, ea24, l124, l224, ca24⟩ := (Cs.of_own hn18).at2 (bs_get m k (by omega))
        refine st (idxR (some 41) 22 5 1 A8 ad24 l.length c8 .i64 (k : Int) k ea24 (by kernel_rfl) (by kernel_rfl) (by omega) (by omega) (by omega) ?_)
        refine st (ldR (some 42) 5 (ad24.add k) (.int .u8 ((m.getD k 0).toNat : Int)) (by kernel_rfl) (by kernel_rfl) ca24 ?_)
        refine seg 1 [.op [1, 1, 1, 1, 1, 0, 1, 0, 0, 1, 0, 0] 5, .bl 1, .co [1, 1, 1, 1, 1, 0, 1, 0, 0, 1, 1], .le 0, .bl 0, .co [1, 1, 1, 1, 1, 1]] [(0, .slice A l.length cap), (1, .slice s.A s.l.length s.c), (5, .slice A8 l.length c8), (6, .pointer (some (⟨g9, 0, none⟩))), (7, .pointer (some (⟨g12, 0, none⟩))), (8, .int .i64 (k : Int)), (39, .slice A8 l.length c8), (40, .int .i64 (k : Int)), (43, .int .u8 (IntKind.u8.wrap (((m.getD k 0).toNat : Int) + 1)))] (by kernel_rfl) ?_
        rw [show IntKind.u8.wrap (((m.getD k 0).toNat : Int) + 1) = ((m.getD k 0 + 1).toNat : Int) from wrap_succ _]
        have u27 := UInt8.toNat_lt (m.getD k 0)
        obtain ⟨ad26, ea26, l126, l226, ca26⟩ := (Cs.of_own hn18).at2 (bs_get m k (by omega))
        refine st (idxR (some 44) 22 5 1 A8 ad26 l.length c8 .i64 (k : Int) k ea26 (by kernel_rfl) (by kernel_rfl) (by omega) (by omega) (by omega) ?_)
        refine st (stOwnR none 5 w.heap.size 5 1 A8 l.length c8 (bs m) ad26 k (.int .u8 ((m.getD k 0 + 1).toNat : Int)) (by kernel_rfl) (by kernel_rfl) rfl hn18 ea26 (by first | (rw [bs_length]; omega) | (simp; omega)) ?_)
        intro w28 hn28 hx28 hz28
        replace hc15 := hc15.kp hx28 (fun k hk => by first | exact .inr (by have := own_ge hn18 hk; omega) | exact .inl (by have := hlt10 k hk; omega) | exact .inl (by have := hlt11 k hk; omega))
        replace hc16 := hc16.kp hx28 (fun k hk => by first | exact .inr (by have := own_ge hn18 hk; omega) | exact .inl (by have := hlt10 k hk; omega) | exact .inl (by have := hlt11 k hk; omega))
        replace hd17 : Sls.Ok _ _ _ s := Dat.kp (a := s) hd17 hx28 (fun k hk => by first | exact .inr (by have := own_ge hn18 hk; omega) | exact .inl (by have := hlt10 k hk; omega) | exact .inl (by have := hlt11 k hk; omega))
        replace hg19 := hx28.blk hg19 (fun e => by first | (have := own_ge hn18 e; omega) | (have := hlt10 _ e; omega) | (have := hlt11 _ e; omega))
        replace hg20 := hx28.blk hg20 (fun e => by first | (have := own_ge hn18 e; omega) | (have := hlt10 _ e; omega) | (have := hlt11 _ e; omega))
        replace hF := hF.step hx28 (fun k hk hlt => absurd (own_ge hn18 hk) (by omega))
        rw [bs_set] at hn28
        refine seg 7 [.le 0, .bl 0, .co [1, 1, 1, 1, 1, 1]] [(0, .slice A l.length cap), (1, .slice s.A s.l.length s.c), (5, .slice A8 l.length c8), (6, .pointer (some (⟨g9, 0, none⟩))), (7, .pointer (some (⟨g12, 0, none⟩))), (8, .int .i64 (IntKind.i64.wrap ((k : Int) + 1)))] (by kernel_rfl) ?_
        rw [show IntKind.i64.wrap ((k : Int) + 1) = ((k : Int) + 1) from w64 (by omega)]
        refine leR (k + 1, (m.set k (m.getD k 0 + 1))) (by dsimp only; omega) ⟨by dsimp only; omega, by dsimp only; rw [List.length_set]; exact hm, hc15, hc16, hd17, hn28, hg19, hg20, hF⟩ (by kernel_rfl)
      · rw [hb23]
        have h23 := of_decide_eq_false hb23
        refine seg 8 [.co [1, 1, 1, 1, 1, 1, 0, 1, 0], .bl 2, .co [1, 1, 1, 1, 1, 1, 1]] [(0, .slice A l.length cap), (1, .slice s.A s.l.length s.c), (6, .pointer (some (⟨g9, 0, none⟩))), (7, .pointer (some (⟨g12, 0, none⟩))), (9, .int .i64 0)] (by kernel_rfl) ?_
        refine loopR 0 (fun (x : Nat × Int × Int) => [(0, .slice A l.length cap), (1, .slice s.A s.l.length s.c), (6, .pointer (some (⟨g9, 0, none⟩))), (7, .pointer (some (⟨g12, 0, none⟩))), (9, .int .i64 (x.1 : Int))]) (fun (x : Nat × Int × Int) (wl29 : World) => (x.1 ≤ s.l.length) ∧ (0 ≤ x.2.1 ∧ x.2.1 ≤ l.length) ∧ Cs 0 w.heap.size wl29 A (bs l) ∧ Cs w8.heap.size g9 wl29 A9 (bs l) ∧ Sls.Ok 0 w.heap.size wl29 s ∧ wl29.heap[g9]? = some (.cells #[.slice A9 l.length c9, .int .i64 x.2.1, .int .i64 x.2.2] 98 (0, 0)) ∧ wl29.heap[g12]? = some (.cells #[.slice A l.length cap, .int .i64 x.2.1, .int .i64 x.2.2] 66 (0, 0)) ∧ Ex w wl29) (fun (x : Nat × Int × Int) => s.l.length - x.1) (0, 0, 0) (by kernel_rfl) (by kernel_rfl) (by kernel_rfl) ?_ ?_
        · exact ⟨Nat.zero_le _, ⟨Int.le_refl _, Int.natCast_nonneg _⟩, hc15, hc16, hd17, hg19, hg20, hF⟩
        rintro ⟨i, a, e⟩ wl29 ⟨hi, ha, hc30, hc31, hd32, hg33, hg34, hF⟩
        try dsimp only at hi
        try dsimp only at ha
        try dsimp only at hc30
        try dsimp only at hc31
        try dsimp only at hd32
        try dsimp only at hg33
        try dsimp only at hg34
        try dsimp only at hF
        have hzwl29 := hF.size
        have hbl35 := blk_lt hg33
        have hbl36 := blk_lt hg34
        refine seg 8 [.co [1, 1, 1, 1, 1, 1, 0, 1, 0, 0, 0, 1], .co [1, 1, 1, 1, 1, 1, 0, 1, 0, 0, 1], .le 0, .bl 2, .co [1, 1, 1, 1, 1, 1, 1]] [(0, .slice A l.length cap), (1, .slice s.A s.l.length s.c), (6, .pointer (some (⟨g9, 0, none⟩))), (7, .pointer (some (⟨g12, 0, none⟩))), (9, .int .i64 (i : Int)), (48, .bool (decide ((i : Int) < (s.l.length : Int))))] (by kernel_rfl) ?_
        rcases bsplit (decide ((i : Int) < (s.l.length : Int))) with hb37 | hb37
        · rw [hb37]
          have h37 := of_decide_eq_true hb37
          refine seg 5 [.co [1, 1, 1, 1, 1, 1, 0, 1, 0, 0, 1, 0, 0, 0], .co [1, 1, 1, 1, 1, 1, 0, 1, 0, 0, 1, 0, 0, 1], .bl 3, .co [1, 1, 1, 1, 1, 1, 0, 1, 0, 0, 1, 1], .le 0, .bl 2, .co [1, 1, 1, 1, 1, 1, 1]] [(0, .slice A l.length cap), (1, .slice s.A s.l.length s.c), (6, .pointer (some (⟨g9, 0, none⟩))), (7, .pointer (some (⟨g12, 0, none⟩))), (9, .int .i64 (i : Int))] (by kernel_rfl) ?_
          obtain ⟨x51, hx51⟩ : ∃ x, s.l[i]? = some x := ⟨_, List.getElem?_eq_getElem (by omega)⟩
          have ox51 : TAct.Ok _ _ _ x51 := Sls.Ok.el hd32 x51 (List.mem_of_getElem? hx51)
          have q53 : -9223372036854775808 ≤ x51.Do ∧ x51.Do ≤ 9223372036854775807 := ox51.Do
          have q54 : -9223372036854775808 ≤ x51.N ∧ x51.N ≤ 9223372036854775807 := ox51.N
          have q55 : x51.V < 18446744073709551616 := ox51.V
          have q56 : x51.B.l.length ≤ x51.B.c := Sls.Ok.le ox51.B
          have q56m : x51.B.c ≤ maxLen := Sls.Ok.max ox51.B
          refine joinR 1 (fun (x : Nat × Nat × Option Addr × Nat) => [(0, .slice A l.length cap), (1, .slice s.A s.l.length s.c), (6, .pointer (some (⟨g9, 0, none⟩))), (7, .pointer (some (⟨g12, 0, none⟩))), (9, .int .i64 (i : Int)), (10, .pointer (some (⟨x.1, 0, none⟩))), (11, .pointer (some (⟨x.2.1, 0, none⟩)))]) (fun (x : Nat × Nat × Option Addr × Nat) (wj64 : World) => Cs 0 w.heap.size wj64 A (bs l) ∧ Cs w8.heap.size g9 wj64 A9 (bs l) ∧ Cs 0 w.heap.size wj64 x.2.2.1 (bs (rdL x51.Do x51.N l a (rdE x51.Do x51.N l a e))) ∧ Sls.Ok 0 w.heap.size wj64 s ∧ TAct.Ok 0 w.heap.size wj64 x51 ∧ wj64.heap[g9]? = some (.cells #[.slice A9 l.length c9, .int .i64 a, .int .i64 e] 98 (0, 0)) ∧ wj64.heap[g12]? = some (.cells #[.slice A l.length cap, .int .i64 a, .int .i64 e] 66 (0, 0)) ∧ wj64.heap[x.1]? = some (.cells #[.slice A l.length cap, .int .i64 (rdA x51.Do x51.N l a (rdE x51.Do x51.N l a e)), .int .i64 (rdE x51.Do x51.N l a e)] 66 (0, 0)) ∧ wj64.heap[x.2.1]? = some (.cells #[.int .u64 ((rdV x51.Do x51.N l a (rdE x51.Do x51.N l a e)) : Int), .slice x.2.2.1 ((rdL x51.Do x51.N l a (rdE x51.Do x51.N l a e)).length) x.2.2.2] 68 (0, 0)) ∧ wl29.heap.size ≤ x.1 ∧ wl29.heap.size ≤ x.2.1 ∧ x.1 ≠ x.2.1 ∧ wl29.heap.size ≤ wj64.heap.size ∧ Ex w wj64) (by kernel_rfl) ?_ ?_
          · refine drawT (fun _ => False) (by kernel_rfl) (by kernel_rfl) ?_
            intro w78 hx78 hz78
            have hc30_78 := hc30
            have hc31_78 := hc31
            have hg33_78 := hg33
            have hg34_78 := hg34
            have hd32_78 := hd32
            have ox51_78 := ox51
            replace hc30_78 := hc30_78.ex hx78
            replace hc31_78 := hc31_78.ex hx78
            replace hd32_78 : Sls.Ok _ _ _ s := Dat.kp (a := s) hd32_78 hx78 (fun _ e => e.elim)
            replace ox51_78 : TAct.Ok _ _ _ x51 := Dat.kp (a := x51) ox51_78 hx78 (fun _ e => e.elim)
            replace hg33_78 := hx78.blk hg33_78 (fun e => e)
            replace hg34_78 := hx78.blk hg34_78 (fun e => e)
            replace hF := hF.ex hx78
            have hS78 := Kp.refl (fun _ => False) w78
            refine segD [1, 2] [1, 2] [(0, .slice A l.length cap), (1, .slice s.A s.l.length s.c), (6, .pointer (some (⟨g9, 0, none⟩))), (7, .pointer (some (⟨g12, 0, none⟩))), (9, .int .i64 (i : Int)), (53, .slice s.A s.l.length s.c), (54, .int .i64 (i : Int))] (by kernel_rfl) ?_
            refine takeD (i := 0) (d := (some 52)) (s := vS (Instr.loadAt 66 (.pointer (some (⟨g12, 0, none⟩))))) (v := .agg #[.slice A l.length cap, .int .i64 a, .int .i64 e]) (by kernel_rfl) (by kernel_rfl) (fun w' hw' => aggRun _ _ [.slice A l.length cap, .int .i64 a, .int .i64 e] (by kernel_rfl) (fun j v hj => hw'.cell (blk_cells (vs := [.slice A l.length cap, .int .i64 a, .int .i64 e]) hg34_78 (by rfl) j v hj) (by (try simp only [add_block]); exact (fun e => e)))) ?_
            obtain ⟨ad79, ea79, l179, l279, ca79⟩ := Cs.row (Sls.Ok.cs hd32_78) (n := 4) rfl (by decide) hx51
            refine takeD (i := 3) (d := (some 55)) (s := vS (Instr.indexAt 50 (.slice s.A s.l.length s.c) (.int .i64 (i : Int)))) (v := .pointer (some (ad79.add (i * 4)))) (by kernel_rfl) (by kernel_rfl) (fun w' hw' => idx_run 50 56 4 _ ad79 _ _ _ _ (i * 4) ea79 (by kernel_rfl) (by omega) (by omega) (by omega)) ?_
            refine takeD (i := 4) (d := (some 56)) (s := vS (Instr.loadAt 56 (.pointer (some (ad79.add (i * 4)))))) (v := .agg #[.int .i64 x51.Do, .int .i64 x51.N, .int .u64 (x51.V : Int), .slice x51.B.A x51.B.l.length x51.B.c]) (by kernel_rfl) (by kernel_rfl) (fun w' hw' => aggRun _ _ [.int .i64 x51.Do, .int .i64 x51.N, .int .u64 (x51.V : Int), .slice x51.B.A x51.B.l.length x51.B.c] (by kernel_rfl) (fun j v hj => hw'.cell (ca79 j v hj) (by (try simp only [add_block]); exact (fun e => e)))) ?_
            refine allD [5, 9, 10] (by kernel_rfl) hS78 ⟨?_, ?_, ?_, trivial⟩
            · have hll80 : (l).length = l.length := (by first | rfl | omega | (simp; omega))
              refine (callR (some 57) 38 #[.agg #[.slice A l.length cap, .int .i64 a, .int .i64 e], .agg #[.int .i64 x51.Do, .int .i64 x51.N, .int .u64 (x51.V : Int), .slice x51.B.A x51.B.l.length x51.B.c]] Try.call38 (rread_c w78 l.length cap A hc30_78 hll80 (by omega) (by omega) a e (by omega) (by omega) x51 (Dat.old (a := x51) ox51_78)) (by kernel_rfl) ?_)
              rintro _ w80 ⟨A80, c80, rfl, hx80, hs80, hc80⟩
              have hz80 := hx80.size
              have hc30_80 := hc30_78
              have hc31_80 := hc31_78
              have hg33_80 := hg33_78
              have hg34_80 := hg34_78
              have hd32_80 := hd32_78
              have ox51_80 := ox51_78
              have hS78_80 := hS78
              replace hc30_80 := hc30_80.ex hx80
              replace hc31_80 := hc31_80.ex hx80
              replace hd32_80 : Sls.Ok _ _ _ s := Dat.kp (a := s) hd32_80 hx80 (fun _ e => e.elim)
              replace ox51_80 : TAct.Ok _ _ _ x51 := Dat.kp (a := x51) ox51_80 hx80 (fun _ e => e.elim)
              replace hg33_80 := hx80.blk hg33_80 (fun e => e)
              replace hg34_80 := hx80.blk hg34_80 (fun e => e)
              replace hS78_80 := hS78_80.ex hx80
              replace hF := hF.ex hx80
              refine segD [6, 7, 8] [1, 2, 0, 3, 4, 5, 6, 7, 8] [(0, .slice A l.length cap), (1, .slice s.A s.l.length s.c), (6, .pointer (some (⟨g9, 0, none⟩))), (7, .pointer (some (⟨g12, 0, none⟩))), (9, .int .i64 (i : Int)), (58, .agg #[.slice A l.length cap, .int .i64 (rdA x51.Do x51.N l a (rdE x51.Do x51.N l a e)), .int .i64 (rdE x51.Do x51.N l a e)]), (59, .agg #[.int .u64 ((rdV x51.Do x51.N l a (rdE x51.Do x51.N l a e)) : Int), .slice A80 ((rdL x51.Do x51.N l a (rdE x51.Do x51.N l a e)).length) c80])] (by kernel_rfl) ?_
              refine allD [9, 10] (by kernel_rfl) hS78_80 ⟨?_, ?_, trivial⟩
              · refine (newR (some 10) (fun g => .pointer (some ⟨g, 0, none⟩)) (.cells #[.slice none 0 0, .int .i64 0, .int .i64 0] 66) (by kernel_rfl) ?_)
                intro g81 w81 hgs81 hx81 hg81 hz81
                have hc30_81 := hc30_80
                have hc31_81 := hc31_80
                have hs80_81 := hs80
                have hg33_81 := hg33_80
                have hg34_81 := hg34_80
                have hd32_81 := hd32_80
                have ox51_81 := ox51_80
                have hS78_81 := hS78_80
                replace hc30_81 := hc30_81.ex hx81
                replace hc31_81 := hc31_81.ex hx81
                replace hs80_81 := hs80_81.ex hx81
                replace hd32_81 : Sls.Ok _ _ _ s := Dat.kp (a := s) hd32_81 hx81 (fun _ e => e.elim)
                replace ox51_81 : TAct.Ok _ _ _ x51 := Dat.kp (a := x51) ox51_81 hx81 (fun _ e => e.elim)
                replace hg33_81 := hx81.blk hg33_81 (fun e => e)
                replace hg34_81 := hx81.blk hg34_81 (fun e => e)
                replace hS78_81 := hS78_81.ex hx81
                replace hF := hF.ex hx81
                refine stD (i := 10) (by kernel_rfl) hS78_81 (newR (some 11) (fun g => .pointer (some ⟨g, 0, none⟩)) (.cells #[.int .u64 0, .slice none 0 0] 68) (by kernel_rfl) ?_)
                intro g82 w82 hgs82 hx82 hg82 hz82
                have hc30_82 := hc30_81
                have hc31_82 := hc31_81
                have hs80_82 := hs80_81
                have hg33_82 := hg33_81
                have hg34_82 := hg34_81
                have hg81_82 := hg81
                have hd32_82 := hd32_81
                have ox51_82 := ox51_81
                have hS78_82 := hS78_81
                replace hc30_82 := hc30_82.ex hx82
                replace hc31_82 := hc31_82.ex hx82
                replace hs80_82 := hs80_82.ex hx82
                replace hd32_82 : Sls.Ok _ _ _ s := Dat.kp (a := s) hd32_82 hx82 (fun _ e => e.elim)
                replace ox51_82 : TAct.Ok _ _ _ x51 := Dat.kp (a := x51) ox51_82 hx82 (fun _ e => e.elim)
                replace hg33_82 := hx82.blk hg33_82 (fun e => e)
                replace hg34_82 := hx82.blk hg34_82 (fun e => e)
                replace hg81_82 := hx82.blk hg81_82 (fun e => e)
                replace hS78_82 := hS78_82.ex hx82
                replace hF := hF.ex hx82
                refine stD (i := 11) (by kernel_rfl) hS78_82 (stAggR none 66 g81 0 [.slice A l.length cap, .int .i64 (rdA x51.Do x51.N l a (rdE x51.Do x51.N l a e)), .int .i64 (rdE x51.Do x51.N l a e)] #[.slice none 0 0, .int .i64 0, .int .i64 0] #[.slice A l.length cap, .int .i64 (rdA x51.Do x51.N l a (rdE x51.Do x51.N l a e)), .int .i64 (rdE x51.Do x51.N l a e)] 66 (by kernel_rfl) (by kernel_rfl) (by rfl) hg81_82 (by simp) (by rfl) ?_)
                intro w83 hx83 hg83 hz83
                have hc30_83 := hc30_82
                have hc31_83 := hc31_82
                have hs80_83 := hs80_82
                have hg33_83 := hg33_82
                have hg34_83 := hg34_82
                have hg81_83 := hg81_82
                have hg82_83 := hg82
                have hd32_83 := hd32_82
                have ox51_83 := ox51_82
                have hS78_83 := hS78_82
                replace hc30_83 := hc30_83.kp hx83 (fun k (hk : k = g81) => by omega)
                replace hc31_83 := hc31_83.kp hx83 (fun k (hk : k = g81) => by omega)
                replace hs80_83 := hs80_83.kp hx83 (fun k (hk : k = g81) => by omega)
                replace hd32_83 : Sls.Ok _ _ _ s := Dat.kp (a := s) hd32_83 hx83 (fun k (hk : k = g81) => by omega)
                replace ox51_83 : TAct.Ok _ _ _ x51 := Dat.kp (a := x51) ox51_83 hx83 (fun k (hk : k = g81) => by omega)
                replace hg33_83 := hx83.blk hg33_83 (fun e => by have e : g9 = g81 := e; omega)
                replace hg34_83 := hx83.blk hg34_83 (fun e => by have e : g12 = g81 := e; omega)
                replace hg82_83 := hx83.blk hg82_83 (fun e => by have e : g82 = g81 := e; omega)
                replace hS78_83 := hS78_83.step hx83 (fun k hk hlt => by have hk : k = g81 := hk; first | omega | (show False; omega))
                replace hF := hF.step hx83 (fun k hk hlt => by have hk : k = g81 := hk; omega)
                refine stD (i := 12) (by kernel_rfl) hS78_83 (stAggR none 68 g82 0 [.int .u64 ((rdV x51.Do x51.N l a (rdE x51.Do x51.N l a e)) : Int), .slice A80 ((rdL x51.Do x51.N l a (rdE x51.Do x51.N l a e)).length) c80] #[.int .u64 0, .slice none 0 0] #[.int .u64 ((rdV x51.Do x51.N l a (rdE x51.Do x51.N l a e)) : Int), .slice A80 ((rdL x51.Do x51.N l a (rdE x51.Do x51.N l a e)).length) c80] 68 (by kernel_rfl) (by kernel_rfl) (by rfl) hg82_83 (by simp) (by rfl) ?_)
                intro w84 hx84 hg84 hz84
                have hc30_84 := hc30_83
                have hc31_84 := hc31_83
                have hs80_84 := hs80_83
                have hg33_84 := hg33_83
                have hg34_84 := hg34_83
                have hg83_84 := hg83
                have hg82_84 := hg82_83
                have hd32_84 := hd32_83
                have ox51_84 := ox51_83
                have hS78_84 := hS78_83
                replace hc30_84 := hc30_84.kp hx84 (fun k (hk : k = g82) => by omega)
                replace hc31_84 := hc31_84.kp hx84 (fun k (hk : k = g82) => by omega)
                replace hs80_84 := hs80_84.kp hx84 (fun k (hk : k = g82) => by omega)
                replace hd32_84 : Sls.Ok _ _ _ s := Dat.kp (a := s) hd32_84 hx84 (fun k (hk : k = g82) => by omega)
                replace ox51_84 : TAct.Ok _ _ _ x51 := Dat.kp (a := x51) ox51_84 hx84 (fun k (hk : k = g82) => by omega)
                replace hg33_84 := hx84.blk hg33_84 (fun e => by have e : g9 = g82 := e; omega)
                replace hg34_84 := hx84.blk hg34_84 (fun e => by have e : g12 = g82 := e; omega)
                replace hg83_84 := hx84.blk hg83_84 (fun e => by have e : g81 = g82 := e; omega)
                replace hS78_84 := hS78_84.step hx84 (fun k hk hlt => by have hk : k = g82 := hk; first | omega | (show False; omega))
                replace hF := hF.step hx84 (fun k hk hlt => by have hk : k = g82 := hk; omega)
                refine endD (by kernel_rfl) hS78_84 ?_
                refine leJ (g81, g82, A80, c80) ⟨hc30_84, hc31_84, hs80_84, hd32_84, ox51_84, hg33_84, hg34_84, hg83_84, hg84, by (try dsimp only); omega, by (try dsimp only); omega, by (try dsimp only); omega, by (try dsimp only); omega, hF⟩ (by kernel_rfl)
              · refine (newR (some 11) (fun g => .pointer (some ⟨g, 0, none⟩)) (.cells #[.int .u64 0, .slice none 0 0] 68) (by kernel_rfl) ?_)
                intro g85 w85 hgs85 hx85 hg85 hz85
                have hc30_85 := hc30_80
                have hc31_85 := hc31_80
                have hs80_85 := hs80
                have hg33_85 := hg33_80
                have hg34_85 := hg34_80
                have hd32_85 := hd32_80
                have ox51_85 := ox51_80
                have hS78_85 := hS78_80
                replace hc30_85 := hc30_85.ex hx85
                replace hc31_85 := hc31_85.ex hx85
                replace hs80_85 := hs80_85.ex hx85
                replace hd32_85 : Sls.Ok _ _ _ s := Dat.kp (a := s) hd32_85 hx85 (fun _ e => e.elim)
                replace ox51_85 : TAct.Ok _ _ _ x51 := Dat.kp (a := x51) ox51_85 hx85 (fun _ e => e.elim)
                replace hg33_85 := hx85.blk hg33_85 (fun e => e)
                replace hg34_85 := hx85.blk hg34_85 (fun e => e)
                replace hS78_85 := hS78_85.ex hx85
                replace hF := hF.ex hx85
                refine stD (i := 9) (by kernel_rfl) hS78_85 (newR (some 10) (fun g => .pointer (some ⟨g, 0, none⟩)) (.cells #[.slice none 0 0, .int .i64 0, .int .i64 0] 66) (by kernel_rfl) ?_)
                intro g86 w86 hgs86 hx86 hg86 hz86
                have hc30_86 := hc30_85
                have hc31_86 := hc31_85
                have hs80_86 := hs80_85
                have hg33_86 := hg33_85
                have hg34_86 := hg34_85
                have hg85_86 := hg85
                have hd32_86 := hd32_85
                have ox51_86 := ox51_85
                have hS78_86 := hS78_85
                replace hc30_86 := hc30_86.ex hx86
                replace hc31_86 := hc31_86.ex hx86
                replace hs80_86 := hs80_86.ex hx86
                replace hd32_86 : Sls.Ok _ _ _ s := Dat.kp (a := s) hd32_86 hx86 (fun _ e => e.elim)
                replace ox51_86 : TAct.Ok _ _ _ x51 := Dat.kp (a := x51) ox51_86 hx86 (fun _ e => e.elim)
                replace hg33_86 := hx86.blk hg33_86 (fun e => e)
                replace hg34_86 := hx86.blk hg34_86 (fun e => e)
                replace hg85_86 := hx86.blk hg85_86 (fun e => e)
                replace hS78_86 := hS78_86.ex hx86
                replace hF := hF.ex hx86
                refine stD (i := 11) (by kernel_rfl) hS78_86 (stAggR none 66 g86 0 [.slice A l.length cap, .int .i64 (rdA x51.Do x51.N l a (rdE x51.Do x51.N l a e)), .int .i64 (rdE x51.Do x51.N l a e)] #[.slice none 0 0, .int .i64 0, .int .i64 0] #[.slice A l.length cap, .int .i64 (rdA x51.Do x51.N l a (rdE x51.Do x51.N l a e)), .int .i64 (rdE x51.Do x51.N l a e)] 66 (by kernel_rfl) (by kernel_rfl) (by rfl) hg86 (by simp) (by rfl) ?_)
                intro w87 hx87 hg87 hz87
                have hc30_87 := hc30_86
                have hc31_87 := hc31_86
                have hs80_87 := hs80_86
                have hg33_87 := hg33_86
                have hg34_87 := hg34_86
                have hg85_87 := hg85_86
                have hg86_87 := hg86
                have hd32_87 := hd32_86
                have ox51_87 := ox51_86
                have hS78_87 := hS78_86
                replace hc30_87 := hc30_87.kp hx87 (fun k (hk : k = g86) => by omega)
                replace hc31_87 := hc31_87.kp hx87 (fun k (hk : k = g86) => by omega)
                replace hs80_87 := hs80_87.kp hx87 (fun k (hk : k = g86) => by omega)
                replace hd32_87 : Sls.Ok _ _ _ s := Dat.kp (a := s) hd32_87 hx87 (fun k (hk : k = g86) => by omega)
                replace ox51_87 : TAct.Ok _ _ _ x51 := Dat.kp (a := x51) ox51_87 hx87 (fun k (hk : k = g86) => by omega)
                replace hg33_87 := hx87.blk hg33_87 (fun e => by have e : g9 = g86 := e; omega)
                replace hg34_87 := hx87.blk hg34_87 (fun e => by have e : g12 = g86 := e; omega)
                replace hg85_87 := hx87.blk hg85_87 (fun e => by have e : g85 = g86 := e; omega)
                replace hS78_87 := hS78_87.step hx87 (fun k hk hlt => by have hk : k = g86 := hk; first | omega | (show False; omega))
                replace hF := hF.step hx87 (fun k hk hlt => by have hk : k = g86 := hk; omega)
                refine stD (i := 12) (by kernel_rfl) hS78_87 (stAggR none 68 g85 0 [.int .u64 ((rdV x51.Do x51.N l a (rdE x51.Do x51.N l a e)) : Int), .slice A80 ((rdL x51.Do x51.N l a (rdE x51.Do x51.N l a e)).length) c80] #[.int .u64 0, .slice none 0 0] #[.int .u64 ((rdV x51.Do x51.N l a (rdE x51.Do x51.N l a e)) : Int), .slice A80 ((rdL x51.Do x51.N l a (rdE x51.Do x51.N l a e)).length) c80] 68 (by kernel_rfl) (by kernel_rfl) (by rfl) hg85_87 (by simp) (by rfl) ?_)
                intro w88 hx88 hg88 hz88
                have hc30_88 := hc30_87
                have hc31_88 := hc31_87
                have hs80_88 := hs80_87
                have hg33_88 := hg33_87
                have hg34_88 := hg34_87
                have hg85_88 := hg85_87
                have hg87_88 := hg87
                have hd32_88 := hd32_87
                have ox51_88 := ox51_87
                have hS78_88 := hS78_87
                replace hc30_88 := hc30_88.kp hx88 (fun k (hk : k = g85) => by omega)
                replace hc31_88 := hc31_88.kp hx88 (fun k (hk : k = g85) => by omega)
                replace hs80_88 := hs80_88.kp hx88 (fun k (hk : k = g85) => by omega)
                replace hd32_88 : Sls.Ok _ _ _ s := Dat.kp (a := s) hd32_88 hx88 (fun k (hk : k = g85) => by omega)
                replace ox51_88 : TAct.Ok _ _ _ x51 := Dat.kp (a := x51) ox51_88 hx88 (fun k (hk : k = g85) => by omega)
                replace hg33_88 := hx88.blk hg33_88 (fun e => by have e : g9 = g85 := e; omega)
                replace hg34_88 := hx88.blk hg34_88 (fun e => by have e : g12 = g85 := e; omega)
                replace hg87_88 := hx88.blk hg87_88 (fun e => by have e : g86 = g85 := e; omega)
                replace hS78_88 := hS78_88.step hx88 (fun k hk hlt => by have hk : k = g85 := hk; first | omega | (show False; omega))
                replace hF := hF.step hx88 (fun k hk hlt => by have hk : k = g85 := hk; omega)
                refine endD (by kernel_rfl) hS78_88 ?_
                refine leJ (g86, g85, A80, c80) ⟨hc30_88, hc31_88, hs80_88, hd32_88, ox51_88, hg33_88, hg34_88, hg87_88, hg88, by (try dsimp only); omega, by (try dsimp only); omega, by (try dsimp only); omega, by (try dsimp only); omega, hF⟩ (by kernel_rfl)
            · refine (newR (some 10) (fun g => .pointer (some ⟨g, 0, none⟩)) (.cells #[.slice none 0 0, .int .i64 0, .int .i64 0] 66) (by kernel_rfl) ?_)
              intro g89 w89 hgs89 hx89 hg89 hz89
              have hc30_89 := hc30_78
              have hc31_89 := hc31_78
              have hg33_89 := hg33_78
              have hg34_89 := hg34_78
              have hd32_89 := hd32_78
              have ox51_89 := ox51_78
              have hS78_89 := hS78
              replace hc30_89 := hc30_89.ex hx89
              replace hc31_89 := hc31_89.ex hx89
              replace hd32_89 : Sls.Ok _ _ _ s := Dat.kp (a := s) hd32_89 hx89 (fun _ e => e.elim)
              replace ox51_89 : TAct.Ok _ _ _ x51 := Dat.kp (a := x51) ox51_89 hx89 (fun _ e => e.elim)
              replace hg33_89 := hx89.blk hg33_89 (fun e => e)
              replace hg34_89 := hx89.blk hg34_89 (fun e => e)
              replace hS78_89 := hS78_89.ex hx89
              replace hF := hF.ex hx89
              refine allD [5, 10] (by kernel_rfl) hS78_89 ⟨?_, ?_, trivial⟩
              · have hll90 : (l).length = l.length := (by first | rfl | omega | (simp; omega))
                refine (callR (some 57) 38 #[.agg #[.slice A l.length cap, .int .i64 a, .int .i64 e], .agg #[.int .i64 x51.Do, .int .i64 x51.N, .int .u64 (x51.V : Int), .slice x51.B.A x51.B.l.length x51.B.c]] Try.call38 (rread_c w89 l.length cap A hc30_89 hll90 (by omega) (by omega) a e (by omega) (by omega) x51 (Dat.old (a := x51) ox51_89)) (by kernel_rfl) ?_)
                rintro _ w90 ⟨A90, c90, rfl, hx90, hs90, hc90⟩
                have hz90 := hx90.size
                have hc30_90 := hc30_89
                have hc31_90 := hc31_89
                have hg33_90 := hg33_89
                have hg34_90 := hg34_89
                have hg89_90 := hg89
                have hd32_90 := hd32_89
                have ox51_90 := ox51_89
                have hS78_90 := hS78_89
                replace hc30_90 := hc30_90.ex hx90
                replace hc31_90 := hc31_90.ex hx90
                replace hd32_90 : Sls.Ok _ _ _ s := Dat.kp (a := s) hd32_90 hx90 (fun _ e => e.elim)
                replace ox51_90 : TAct.Ok _ _ _ x51 := Dat.kp (a := x51) ox51_90 hx90 (fun _ e => e.elim)
                replace hg33_90 := hx90.blk hg33_90 (fun e => e)
                replace hg34_90 := hx90.blk hg34_90 (fun e => e)
                replace hg89_90 := hx90.blk hg89_90 (fun e => e)
                replace hS78_90 := hS78_90.ex hx90
                replace hF := hF.ex hx90
                refine segD [6, 7, 8] [1, 2, 0, 3, 4, 9, 5, 6, 7, 8] [(0, .slice A l.length cap), (1, .slice s.A s.l.length s.c), (6, .pointer (some (⟨g9, 0, none⟩))), (7, .pointer (some (⟨g12, 0, none⟩))), (9, .int .i64 (i : Int)), (10, .pointer (some (⟨g89, 0, none⟩))), (58, .agg #[.slice A l.length cap, .int .i64 (rdA x51.Do x51.N l a (rdE x51.Do x51.N l a e)), .int .i64 (rdE x51.Do x51.N l a e)]), (59, .agg #[.int .u64 ((rdV x51.Do x51.N l a (rdE x51.Do x51.N l a e)) : Int), .slice A90 ((rdL x51.Do x51.N l a (rdE x51.Do x51.N l a e)).length) c90])] (by kernel_rfl) ?_
                refine stD (i := 10) (by kernel_rfl) hS78_90 (newR (some 11) (fun g => .pointer (some ⟨g, 0, none⟩)) (.cells #[.int .u64 0, .slice none 0 0] 68) (by kernel_rfl) ?_)
                intro g91 w91 hgs91 hx91 hg91 hz91
                have hc30_91 := hc30_90
                have hc31_91 := hc31_90
                have hs90_91 := hs90
                have hg33_91 := hg33_90
                have hg34_91 := hg34_90
                have hg89_91 := hg89_90
                have hd32_91 := hd32_90
                have ox51_91 := ox51_90
                have hS78_91 := hS78_90
                replace hc30_91 := hc30_91.ex hx91
                replace hc31_91 := hc31_91.ex hx91
                replace hs90_91 := hs90_91.ex hx91
                replace hd32_91 : Sls.Ok _ _ _ s := Dat.kp (a := s) hd32_91 hx91 (fun _ e => e.elim)
                replace ox51_91 : TAct.Ok _ _ _ x51 := Dat.kp (a := x51) ox51_91 hx91 (fun _ e => e.elim)
                replace hg33_91 := hx91.blk hg33_91 (fun e => e)
                replace hg34_91 := hx91.blk hg34_91 (fun e => e)
                replace hg89_91 := hx91.blk hg89_91 (fun e => e)
                replace hS78_91 := hS78_91.ex hx91
                replace hF := hF.ex hx91
                refine stD (i := 11) (by kernel_rfl) hS78_91 (stAggR none 66 g89 0 [.slice A l.length cap, .int .i64 (rdA x51.Do x51.N l a (rdE x51.Do x51.N l a e)), .int .i64 (rdE x51.Do x51.N l a e)] #[.slice none 0 0, .int .i64 0, .int .i64 0] #[.slice A l.length cap, .int .i64 (rdA x51.Do x51.N l a (rdE x51.Do x51.N l a e)), .int .i64 (rdE x51.Do x51.N l a e)] 66 (by kernel_rfl) (by kernel_rfl) (by rfl) hg89_91 (by simp) (by rfl) ?_)
                intro w92 hx92 hg92 hz92
                have hc30_92 := hc30_91
                have hc31_92 := hc31_91
                have hs90_92 := hs90_91
                have hg33_92 := hg33_91
                have hg34_92 := hg34_91
                have hg89_92 := hg89_91
                have hg91_92 := hg91
                have hd32_92 := hd32_91
                have ox51_92 := ox51_91
                have hS78_92 := hS78_91
                replace hc30_92 := hc30_92.kp hx92 (fun k (hk : k = g89) => by omega)
                replace hc31_92 := hc31_92.kp hx92 (fun k (hk : k = g89) => by omega)
                replace hs90_92 := hs90_92.kp hx92 (fun k (hk : k = g89) => by omega)
                replace hd32_92 : Sls.Ok _ _ _ s := Dat.kp (a := s) hd32_92 hx92 (fun k (hk : k = g89) => by omega)
                replace ox51_92 : TAct.Ok _ _ _ x51 := Dat.kp (a := x51) ox51_92 hx92 (fun k (hk : k = g89) => by omega)
                replace hg33_92 := hx92.blk hg33_92 (fun e => by have e : g9 = g89 := e; omega)
                replace hg34_92 := hx92.blk hg34_92 (fun e => by have e : g12 = g89 := e; omega)
                replace hg91_92 := hx92.blk hg91_92 (fun e => by have e : g91 = g89 := e; omega)
                replace hS78_92 := hS78_92.step hx92 (fun k hk hlt => by have hk : k = g89 := hk; first | omega | (show False; omega))
                replace hF := hF.step hx92 (fun k hk hlt => by have hk : k = g89 := hk; omega)
                refine stD (i := 12) (by kernel_rfl) hS78_92 (stAggR none 68 g91 0 [.int .u64 ((rdV x51.Do x51.N l a (rdE x51.Do x51.N l a e)) : Int), .slice A90 ((rdL x51.Do x51.N l a (rdE x51.Do x51.N l a e)).length) c90] #[.int .u64 0, .slice none 0 0] #[.int .u64 ((rdV x51.Do x51.N l a (rdE x51.Do x51.N l a e)) : Int), .slice A90 ((rdL x51.Do x51.N l a (rdE x51.Do x51.N l a e)).length) c90] 68 (by kernel_rfl) (by kernel_rfl) (by rfl) hg91_92 (by simp) (by rfl) ?_)
                intro w93 hx93 hg93 hz93
                have hc30_93 := hc30_92
                have hc31_93 := hc31_92
                have hs90_93 := hs90_92
                have hg33_93 := hg33_92
                have hg34_93 := hg34_92
                have hg92_93 := hg92
                have hg91_93 := hg91_92
                have hd32_93 := hd32_92
                have ox51_93 := ox51_92
                have hS78_93 := hS78_92
                replace hc30_93 := hc30_93.kp hx93 (fun k (hk : k = g91) => by omega)
                replace hc31_93 := hc31_93.kp hx93 (fun k (hk : k = g91) => by omega)
                replace hs90_93 := hs90_93.kp hx93 (fun k (hk : k = g91) => by omega)
                replace hd32_93 : Sls.Ok _ _ _ s := Dat.kp (a := s) hd32_93 hx93 (fun k (hk : k = g91) => by omega)
                replace ox51_93 : TAct.Ok _ _ _ x51 := Dat.kp (a := x51) ox51_93 hx93 (fun k (hk : k = g91) => by omega)
                replace hg33_93 := hx93.blk hg33_93 (fun e => by have e : g9 = g91 := e; omega)
                replace hg34_93 := hx93.blk hg34_93 (fun e => by have e : g12 = g91 := e; omega)
                replace hg92_93 := hx93.blk hg92_93 (fun e => by have e : g89 = g91 := e; omega)
                replace hS78_93 := hS78_93.step hx93 (fun k hk hlt => by have hk : k = g91 := hk; first | omega | (show False; omega))
                replace hF := hF.step hx93 (fun k hk hlt => by have hk : k = g91 := hk; omega)
                refine endD (by kernel_rfl) hS78_93 ?_
                refine leJ (g89, g91, A90, c90) ⟨hc30_93, hc31_93, hs90_93, hd32_93, ox51_93, hg33_93, hg34_93, hg92_93, hg93, by (try dsimp only); omega, by (try dsimp only); omega, by (try dsimp only); omega, by (try dsimp only); omega, hF⟩ (by kernel_rfl)
              · refine (newR (some 11) (fun g => .pointer (some ⟨g, 0, none⟩)) (.cells #[.int .u64 0, .slice none 0 0] 68) (by kernel_rfl) ?_)
                intro g94 w94 hgs94 hx94 hg94 hz94
                have hc30_94 := hc30_89
                have hc31_94 := hc31_89
                have hg33_94 := hg33_89
                have hg34_94 := hg34_89
                have hg89_94 := hg89
                have hd32_94 := hd32_89
                have ox51_94 := ox51_89
                have hS78_94 := hS78_89
                replace hc30_94 := hc30_94.ex hx94
                replace hc31_94 := hc31_94.ex hx94
                replace hd32_94 : Sls.Ok _ _ _ s := Dat.kp (a := s) hd32_94 hx94 (fun _ e => e.elim)
                replace ox51_94 : TAct.Ok _ _ _ x51 := Dat.kp (a := x51) ox51_94 hx94 (fun _ e => e.elim)
                replace hg33_94 := hx94.blk hg33_94 (fun e => e)
                replace hg34_94 := hx94.blk hg34_94 (fun e => e)
                replace hg89_94 := hx94.blk hg89_94 (fun e => e)
                replace hS78_94 := hS78_94.ex hx94
                replace hF := hF.ex hx94
                have hll95 : (l).length = l.length := (by first | rfl | omega | (simp; omega))
                refine stD (i := 5) (by kernel_rfl) hS78_94 (callR (some 57) 38 #[.agg #[.slice A l.length cap, .int .i64 a, .int .i64 e], .agg #[.int .i64 x51.Do, .int .i64 x51.N, .int .u64 (x51.V : Int), .slice x51.B.A x51.B.l.length x51.B.c]] Try.call38 (rread_c w94 l.length cap A hc30_94 hll95 (by omega) (by omega) a e (by omega) (by omega) x51 (Dat.old (a := x51) ox51_94)) (by kernel_rfl) ?_)
                rintro _ w95 ⟨A95, c95, rfl, hx95, hs95, hc95⟩
                have hz95 := hx95.size
                have hc30_95 := hc30_94
                have hc31_95 := hc31_94
                have hg33_95 := hg33_94
                have hg34_95 := hg34_94
                have hg89_95 := hg89_94
                have hg94_95 := hg94
                have hd32_95 := hd32_94
                have ox51_95 := ox51_94
                have hS78_95 := hS78_94
                replace hc30_95 := hc30_95.ex hx95
                replace hc31_95 := hc31_95.ex hx95
                replace hd32_95 : Sls.Ok _ _ _ s := Dat.kp (a := s) hd32_95 hx95 (fun _ e => e.elim)
                replace ox51_95 : TAct.Ok _ _ _ x51 := Dat.kp (a := x51) ox51_95 hx95 (fun _ e => e.elim)
                replace hg33_95 := hx95.blk hg33_95 (fun e => e)
                replace hg34_95 := hx95.blk hg34_95 (fun e => e)
                replace hg89_95 := hx95.blk hg89_95 (fun e => e)
                replace hg94_95 := hx95.blk hg94_95 (fun e => e)
                replace hS78_95 := hS78_95.ex hx95
                replace hF := hF.ex hx95
                refine segD [6, 7, 8] [1, 2, 0, 3, 4, 9, 10, 5, 6, 7, 8] [(0, .slice A l.length cap), (1, .slice s.A s.l.length s.c), (6, .pointer (some (⟨g9, 0, none⟩))), (7, .pointer (some (⟨g12, 0, none⟩))), (9, .int .i64 (i : Int)), (10, .pointer (some (⟨g89, 0, none⟩))), (11, .pointer (some (⟨g94, 0, none⟩))), (58, .agg #[.slice A l.length cap, .int .i64 (rdA x51.Do x51.N l a (rdE x51.Do x51.N l a e)), .int .i64 (rdE x51.Do x51.N l a e)]), (59, .agg #[.int .u64 ((rdV x51.Do x51.N l a (rdE x51.Do x51.N l a e)) : Int), .slice A95 ((rdL x51.Do x51.N l a (rdE x51.Do x51.N l a e)).length) c95])] (by kernel_rfl) ?_
                refine stD (i := 11) (by kernel_rfl) hS78_95 (stAggR none 66 g89 0 [.slice A l.length cap, .int .i64 (rdA x51.Do x51.N l a (rdE x51.Do x51.N l a e)), .int .i64 (rdE x51.Do x51.N l a e)] #[.slice none 0 0, .int .i64 0, .int .i64 0] #[.slice A l.length cap, .int .i64 (rdA x51.Do x51.N l a (rdE x51.Do x51.N l a e)), .int .i64 (rdE x51.Do x51.N l a e)] 66 (by kernel_rfl) (by kernel_rfl) (by rfl) hg89_95 (by simp) (by rfl) ?_)
                intro w96 hx96 hg96 hz96
                have hc30_96 := hc30_95
                have hc31_96 := hc31_95
                have hs95_96 := hs95
                have hg33_96 := hg33_95
                have hg34_96 := hg34_95
                have hg89_96 := hg89_95
                have hg94_96 := hg94_95
                have hd32_96 := hd32_95
                have ox51_96 := ox51_95
                have hS78_96 := hS78_95
                replace hc30_96 := hc30_96.kp hx96 (fun k (hk : k = g89) => by omega)
                replace hc31_96 := hc31_96.kp hx96 (fun k (hk : k = g89) => by omega)
                replace hs95_96 := hs95_96.kp hx96 (fun k (hk : k = g89) => by omega)
                replace hd32_96 : Sls.Ok _ _ _ s := Dat.kp (a := s) hd32_96 hx96 (fun k (hk : k = g89) => by omega)
                replace ox51_96 : TAct.Ok _ _ _ x51 := Dat.kp (a := x51) ox51_96 hx96 (fun k (hk : k = g89) => by omega)
                replace hg33_96 := hx96.blk hg33_96 (fun e => by have e : g9 = g89 := e; omega)
                replace hg34_96 := hx96.blk hg34_96 (fun e => by have e : g12 = g89 := e; omega)
                replace hg94_96 := hx96.blk hg94_96 (fun e => by have e : g94 = g89 := e; omega)
                replace hS78_96 := hS78_96.step hx96 (fun k hk hlt => by have hk : k = g89 := hk; first | omega | (show False; omega))
                replace hF := hF.step hx96 (fun k hk hlt => by have hk : k = g89 := hk; omega)
                refine stD (i := 12) (by kernel_rfl) hS78_96 (stAggR none 68 g94 0 [.int .u64 ((rdV x51.Do x51.N l a (rdE x51.Do x51.N l a e)) : Int), .slice A95 ((rdL x51.Do x51.N l a (rdE x51.Do x51.N l a e)).length) c95] #[.int .u64 0, .slice none 0 0] #[.int .u64 ((rdV x51.Do x51.N l a (rdE x51.Do x51.N l a e)) : Int), .slice A95 ((rdL x51.Do x51.N l a (rdE x51.Do x51.N l a e)).length) c95] 68 (by kernel_rfl) (by kernel_rfl) (by rfl) hg94_96 (by simp) (by rfl) ?_)
                intro w97 hx97 hg97 hz97
                have hc30_97 := hc30_96
                have hc31_97 := hc31_96
                have hs95_97 := hs95_96
                have hg33_97 := hg33_96
                have hg34_97 := hg34_96
                have hg96_97 := hg96
                have hg94_97 := hg94_96
                have hd32_97 := hd32_96
                have ox51_97 := ox51_96
                have hS78_97 := hS78_96
                replace hc30_97 := hc30_97.kp hx97 (fun k (hk : k = g94) => by omega)
                replace hc31_97 := hc31_97.kp hx97 (fun k (hk : k = g94) => by omega)
                replace hs95_97 := hs95_97.kp hx97 (fun k (hk : k = g94) => by omega)
                replace hd32_97 : Sls.Ok _ _ _ s := Dat.kp (a := s) hd32_97 hx97 (fun k (hk : k = g94) => by omega)
                replace ox51_97 : TAct.Ok _ _ _ x51 := Dat.kp (a := x51) ox51_97 hx97 (fun k (hk : k = g94) => by omega)
                replace hg33_97 := hx97.blk hg33_97 (fun e => by have e : g9 = g94 := e; omega)
                replace hg34_97 := hx97.blk hg34_97 (fun e => by have e : g12 = g94 := e; omega)
                replace hg96_97 := hx97.blk hg96_97 (fun e => by have e : g89 = g94 := e; omega)
                replace hS78_97 := hS78_97.step hx97 (fun k hk hlt => by have hk : k = g94 := hk; first | omega | (show False; omega))
                replace hF := hF.step hx97 (fun k hk hlt => by have hk : k = g94 := hk; omega)
                refine endD (by kernel_rfl) hS78_97 ?_
                refine leJ (g89, g94, A95, c95) ⟨hc30_97, hc31_97, hs95_97, hd32_97, ox51_97, hg33_97, hg34_97, hg96_97, hg97, by (try dsimp only); omega, by (try dsimp only); omega, by (try dsimp only); omega, by (try dsimp only); omega, hF⟩ (by kernel_rfl)
            · refine (newR (some 11) (fun g => .pointer (some ⟨g, 0, none⟩)) (.cells #[.int .u64 0, .slice none 0 0] 68) (by kernel_rfl) ?_)
              intro g98 w98 hgs98 hx98 hg98 hz98
              have hc30_98 := hc30_78
              have hc31_98 := hc31_78
              have hg33_98 := hg33_78
              have hg34_98 := hg34_78
              have hd32_98 := hd32_78
              have ox51_98 := ox51_78
              have hS78_98 := hS78
              replace hc30_98 := hc30_98.ex hx98
              replace hc31_98 := hc31_98.ex hx98
              replace hd32_98 : Sls.Ok _ _ _ s := Dat.kp (a := s) hd32_98 hx98 (fun _ e => e.elim)
              replace ox51_98 : TAct.Ok _ _ _ x51 := Dat.kp (a := x51) ox51_98 hx98 (fun _ e => e.elim)
              replace hg33_98 := hx98.blk hg33_98 (fun e => e)
              replace hg34_98 := hx98.blk hg34_98 (fun e => e)
              replace hS78_98 := hS78_98.ex hx98
              replace hF := hF.ex hx98
              refine allD [5, 9] (by kernel_rfl) hS78_98 ⟨?_, ?_, trivial⟩
              · have hll99 : (l).length = l.length := (by first | rfl | omega | (simp; omega))
                refine (callR (some 57) 38 #[.agg #[.slice A l.length cap, .int .i64 a, .int .i64 e], .agg #[.int .i64 x51.Do, .int .i64 x51.N, .int .u64 (x51.V : Int), .slice x51.B.A x51.B.l.length x51.B.c]] Try.call38 (rread_c w98 l.length cap A hc30_98 hll99 (by omega) (by omega) a e (by omega) (by omega) x51 (Dat.old (a := x51) ox51_98)) (by kernel_rfl) ?_)
                rintro _ w99 ⟨A99, c99, rfl, hx99, hs99, hc99⟩
                have hz99 := hx99.size
                have hc30_99 := hc30_98
                have hc31_99 := hc31_98
                have hg33_99 := hg33_98
                have hg34_99 := hg34_98
                have hg98_99 := hg98
                have hd32_99 := hd32_98
                have ox51_99 := ox51_98
                have hS78_99 := hS78_98
                replace hc30_99 := hc30_99.ex hx99
                replace hc31_99 := hc31_99.ex hx99
                replace hd32_99 : Sls.Ok _ _ _ s := Dat.kp (a := s) hd32_99 hx99 (fun _ e => e.elim)
                replace ox51_99 : TAct.Ok _ _ _ x51 := Dat.kp (a := x51) ox51_99 hx99 (fun _ e => e.elim)
                replace hg33_99 := hx99.blk hg33_99 (fun e => e)
                replace hg34_99 := hx99.blk hg34_99 (fun e => e)
                replace hg98_99 := hx99.blk hg98_99 (fun e => e)
                replace hS78_99 := hS78_99.ex hx99
                replace hF := hF.ex hx99
                refine segD [6, 7, 8] [1, 2, 0, 3, 4, 10, 5, 6, 7, 8] [(0, .slice A l.length cap), (1, .slice s.A s.l.length s.c), (6, .pointer (some (⟨g9, 0, none⟩))), (7, .pointer (some (⟨g12, 0, none⟩))), (9, .int .i64 (i : Int)), (11, .pointer (some (⟨g98, 0, none⟩))), (58, .agg #[.slice A l.length cap, .int .i64 (rdA x51.Do x51.N l a (rdE x51.Do x51.N l a e)), .int .i64 (rdE x51.Do x51.N l a e)]), (59, .agg #[.int .u64 ((rdV x51.Do x51.N l a (rdE x51.Do x51.N l a e)) : Int), .slice A99 ((rdL x51.Do x51.N l a (rdE x51.Do x51.N l a e)).length) c99])] (by kernel_rfl) ?_
                refine stD (i := 9) (by kernel_rfl) hS78_99 (newR (some 10) (fun g => .pointer (some ⟨g, 0, none⟩)) (.cells #[.slice none 0 0, .int .i64 0, .int .i64 0] 66) (by kernel_rfl) ?_)
                intro g100 w100 hgs100 hx100 hg100 hz100
                have hc30_100 := hc30_99
                have hc31_100 := hc31_99
                have hs99_100 := hs99
                have hg33_100 := hg33_99
                have hg34_100 := hg34_99
                have hg98_100 := hg98_99
                have hd32_100 := hd32_99
                have ox51_100 := ox51_99
                have hS78_100 := hS78_99
                replace hc30_100 := hc30_100.ex hx100
                replace hc31_100 := hc31_100.ex hx100
                replace hs99_100 := hs99_100.ex hx100
                replace hd32_100 : Sls.Ok _ _ _ s := Dat.kp (a := s) hd32_100 hx100 (fun _ e => e.elim)
                replace ox51_100 : TAct.Ok _ _ _ x51 := Dat.kp (a := x51) ox51_100 hx100 (fun _ e => e.elim)
                replace hg33_100 := hx100.blk hg33_100 (fun e => e)
                replace hg34_100 := hx100.blk hg34_100 (fun e => e)
                replace hg98_100 := hx100.blk hg98_100 (fun e => e)
                replace hS78_100 := hS78_100.ex hx100
                replace hF := hF.ex hx100
                refine stD (i := 11) (by kernel_rfl) hS78_100 (stAggR none 66 g100 0 [.slice A l.length cap, .int .i64 (rdA x51.Do x51.N l a (rdE x51.Do x51.N l a e)), .int .i64 (rdE x51.Do x51.N l a e)] #[.slice none 0 0, .int .i64 0, .int .i64 0] #[.slice A l.length cap, .int .i64 (rdA x51.Do x51.N l a (rdE x51.Do x51.N l a e)), .int .i64 (rdE x51.Do x51.N l a e)] 66 (by kernel_rfl) (by kernel_rfl) (by rfl) hg100 (by simp) (by rfl) ?_)
                intro w101 hx101 hg101 hz101
                have hc30_101 := hc30_100
                have hc31_101 := hc31_100
                have hs99_101 := hs99_100
                have hg33_101 := hg33_100
                have hg34_101 := hg34_100
                have hg98_101 := hg98_100
                have hg100_101 := hg100
                have hd32_101 := hd32_100
                have ox51_101 := ox51_100
                have hS78_101 := hS78_100
                replace hc30_101 := hc30_101.kp hx101 (fun k (hk : k = g100) => by omega)
                replace hc31_101 := hc31_101.kp hx101 (fun k (hk : k = g100) => by omega)
                replace hs99_101 := hs99_101.kp hx101 (fun k (hk : k = g100) => by omega)
                replace hd32_101 : Sls.Ok _ _ _ s := Dat.kp (a := s) hd32_101 hx101 (fun k (hk : k = g100) => by omega)
                replace ox51_101 : TAct.Ok _ _ _ x51 := Dat.kp (a := x51) ox51_101 hx101 (fun k (hk : k = g100) => by omega)
                replace hg33_101 := hx101.blk hg33_101 (fun e => by have e : g9 = g100 := e; omega)
                replace hg34_101 := hx101.blk hg34_101 (fun e => by have e : g12 = g100 := e; omega)
                replace hg98_101 := hx101.blk hg98_101 (fun e => by have e : g98 = g100 := e; omega)
                replace hS78_101 := hS78_101.step hx101 (fun k hk hlt => by have hk : k = g100 := hk; first | omega | (show False; omega))
                replace hF := hF.step hx101 (fun k hk hlt => by have hk : k = g100 := hk; omega)
                refine stD (i := 12) (by kernel_rfl) hS78_101 (stAggR none 68 g98 0 [.int .u64 ((rdV x51.Do x51.N l a (rdE x51.Do x51.N l a e)) : Int), .slice A99 ((rdL x51.Do x51.N l a (rdE x51.Do x51.N l a e)).length) c99] #[.int .u64 0, .slice none 0 0] #[.int .u64 ((rdV x51.Do x51.N l a (rdE x51.Do x51.N l a e)) : Int), .slice A99 ((rdL x51.Do x51.N l a (rdE x51.Do x51.N l a e)).length) c99] 68 (by kernel_rfl) (by kernel_rfl) (by rfl) hg98_101 (by simp) (by rfl) ?_)
                intro w102 hx102 hg102 hz102
                have hc30_102 := hc30_101
                have hc31_102 := hc31_101
                have hs99_102 := hs99_101
                have hg33_102 := hg33_101
                have hg34_102 := hg34_101
                have hg98_102 := hg98_101
                have hg101_102 := hg101
                have hd32_102 := hd32_101
                have ox51_102 := ox51_101
                have hS78_102 := hS78_101
                replace hc30_102 := hc30_102.kp hx102 (fun k (hk : k = g98) => by omega)
                replace hc31_102 := hc31_102.kp hx102 (fun k (hk : k = g98) => by omega)
                replace hs99_102 := hs99_102.kp hx102 (fun k (hk : k = g98) => by omega)
                replace hd32_102 : Sls.Ok _ _ _ s := Dat.kp (a := s) hd32_102 hx102 (fun k (hk : k = g98) => by omega)
                replace ox51_102 : TAct.Ok _ _ _ x51 := Dat.kp (a := x51) ox51_102 hx102 (fun k (hk : k = g98) => by omega)
                replace hg33_102 := hx102.blk hg33_102 (fun e => by have e : g9 = g98 := e; omega)
                replace hg34_102 := hx102.blk hg34_102 (fun e => by have e : g12 = g98 := e; omega)
                replace hg101_102 := hx102.blk hg101_102 (fun e => by have e : g100 = g98 := e; omega)
                replace hS78_102 := hS78_102.step hx102 (fun k hk hlt => by have hk : k = g98 := hk; first | omega | (show False; omega))
                replace hF := hF.step hx102 (fun k hk hlt => by have hk : k = g98 := hk; omega)
                refine endD (by kernel_rfl) hS78_102 ?_
                refine leJ (g100, g98, A99, c99) ⟨hc30_102, hc31_102, hs99_102, hd32_102, ox51_102, hg33_102, hg34_102, hg101_102, hg102, by (try dsimp only); omega, by (try dsimp only); omega, by (try dsimp only); omega, by (try dsimp only); omega, hF⟩ (by kernel_rfl)
              · refine (newR (some 10) (fun g => .pointer (some ⟨g, 0, none⟩)) (.cells #[.slice none 0 0, .int .i64 0, .int .i64 0] 66) (by kernel_rfl) ?_)
                intro g103 w103 hgs103 hx103 hg103 hz103
                have hc30_103 := hc30_98
                have hc31_103 := hc31_98
                have hg33_103 := hg33_98
                have hg34_103 := hg34_98
                have hg98_103 := hg98
                have hd32_103 := hd32_98
                have ox51_103 := ox51_98
                have hS78_103 := hS78_98
                replace hc30_103 := hc30_103.ex hx103
                replace hc31_103 := hc31_103.ex hx103
                replace hd32_103 : Sls.Ok _ _ _ s := Dat.kp (a := s) hd32_103 hx103 (fun _ e => e.elim)
                replace ox51_103 : TAct.Ok _ _ _ x51 := Dat.kp (a := x51) ox51_103 hx103 (fun _ e => e.elim)
                replace hg33_103 := hx103.blk hg33_103 (fun e => e)
                replace hg34_103 := hx103.blk hg34_103 (fun e => e)
                replace hg98_103 := hx103.blk hg98_103 (fun e => e)
                replace hS78_103 := hS78_103.ex hx103
                replace hF := hF.ex hx103
                have hll104 : (l).length = l.length := (by first | rfl | omega | (simp; omega))
                refine stD (i := 5) (by kernel_rfl) hS78_103 (callR (some 57) 38 #[.agg #[.slice A l.length cap, .int .i64 a, .int .i64 e], .agg #[.int .i64 x51.Do, .int .i64 x51.N, .int .u64 (x51.V : Int), .slice x51.B.A x51.B.l.length x51.B.c]] Try.call38 (rread_c w103 l.length cap A hc30_103 hll104 (by omega) (by omega) a e (by omega) (by omega) x51 (Dat.old (a := x51) ox51_103)) (by kernel_rfl) ?_)
                rintro _ w104 ⟨A104, c104, rfl, hx104, hs104, hc104⟩
                have hz104 := hx104.size
                have hc30_104 := hc30_103
                have hc31_104 := hc31_103
                have hg33_104 := hg33_103
                have hg34_104 := hg34_103
                have hg98_104 := hg98_103
                have hg103_104 := hg103
                have hd32_104 := hd32_103
                have ox51_104 := ox51_103
                have hS78_104 := hS78_103
                replace hc30_104 := hc30_104.ex hx104
                replace hc31_104 := hc31_104.ex hx104
                replace hd32_104 : Sls.Ok _ _ _ s := Dat.kp (a := s) hd32_104 hx104 (fun _ e => e.elim)
                replace ox51_104 : TAct.Ok _ _ _ x51 := Dat.kp (a := x51) ox51_104 hx104 (fun _ e => e.elim)
                replace hg33_104 := hx104.blk hg33_104 (fun e => e)
                replace hg34_104 := hx104.blk hg34_104 (fun e => e)
                replace hg98_104 := hx104.blk hg98_104 (fun e => e)
                replace hg103_104 := hx104.blk hg103_104 (fun e => e)
                replace hS78_104 := hS78_104.ex hx104
                replace hF := hF.ex hx104
                refine segD [6, 7, 8] [1, 2, 0, 3, 4, 10, 9, 5, 6, 7, 8] [(0, .slice A l.length cap), (1, .slice s.A s.l.length s.c), (6, .pointer (some (⟨g9, 0, none⟩))), (7, .pointer (some (⟨g12, 0, none⟩))), (9, .int .i64 (i : Int)), (10, .pointer (some (⟨g103, 0, none⟩))), (11, .pointer (some (⟨g98, 0, none⟩))), (58, .agg #[.slice A l.length cap, .int .i64 (rdA x51.Do x51.N l a (rdE x51.Do x51.N l a e)), .int .i64 (rdE x51.Do x51.N l a e)]), (59, .agg #[.int .u64 ((rdV x51.Do x51.N l a (rdE x51.Do x51.N l a e)) : Int), .slice A104 ((rdL x51.Do x51.N l a (rdE x51.Do x51.N l a e)).length) c104])] (by kernel_rfl) ?_
                refine stD (i := 11) (by kernel_rfl) hS78_104 (stAggR none 66 g103 0 [.slice A l.length cap, .int .i64 (rdA x51.Do x51.N l a (rdE x51.Do x51.N l a e)), .int .i64 (rdE x51.Do x51.N l a e)] #[.slice none 0 0, .int .i64 0, .int .i64 0] #[.slice A l.length cap, .int .i64 (rdA x51.Do x51.N l a (rdE x51.Do x51.N l a e)), .int .i64 (rdE x51.Do x51.N l a e)] 66 (by kernel_rfl) (by kernel_rfl) (by rfl) hg103_104 (by simp) (by rfl) ?_)
                intro w105 hx105 hg105 hz105
                have hc30_105 := hc30_104
                have hc31_105 := hc31_104
                have hs104_105 := hs104
                have hg33_105 := hg33_104
                have hg34_105 := hg34_104
                have hg98_105 := hg98_104
                have hg103_105 := hg103_104
                have hd32_105 := hd32_104
                have ox51_105 := ox51_104
                have hS78_105 := hS78_104
                replace hc30_105 := hc30_105.kp hx105 (fun k (hk : k = g103) => by omega)
                replace hc31_105 := hc31_105.kp hx105 (fun k (hk : k = g103) => by omega)
                replace hs104_105 := hs104_105.kp hx105 (fun k (hk : k = g103) => by omega)
                replace hd32_105 : Sls.Ok _ _ _ s := Dat.kp (a := s) hd32_105 hx105 (fun k (hk : k = g103) => by omega)
                replace ox51_105 : TAct.Ok _ _ _ x51 := Dat.kp (a := x51) ox51_105 hx105 (fun k (hk : k = g103) => by omega)
                replace hg33_105 := hx105.blk hg33_105 (fun e => by have e : g9 = g103 := e; omega)
                replace hg34_105 := hx105.blk hg34_105 (fun e => by have e : g12 = g103 := e; omega)
                replace hg98_105 := hx105.blk hg98_105 (fun e => by have e : g98 = g103 := e; omega)
                replace hS78_105 := hS78_105.step hx105 (fun k hk hlt => by have hk : k = g103 := hk; first | omega | (show False; omega))
                replace hF := hF.step hx105 (fun k hk hlt => by have hk : k = g103 := hk; omega)
                refine stD (i := 12) (by kernel_rfl) hS78_105 (stAggR none 68 g98 0 [.int .u64 ((rdV x51.Do x51.N l a (rdE x51.Do x51.N l a e)) : Int), .slice A104 ((rdL x51.Do x51.N l a (rdE x51.Do x51.N l a e)).length) c104] #[.int .u64 0, .slice none 0 0] #[.int .u64 ((rdV x51.Do x51.N l a (rdE x51.Do x51.N l a e)) : Int), .slice A104 ((rdL x51.Do x51.N l a (rdE x51.Do x51.N l a e)).length) c104] 68 (by kernel_rfl) (by kernel_rfl) (by rfl) hg98_105 (by simp) (by rfl) ?_)
                intro w106 hx106 hg106 hz106
                have hc30_106 := hc30_105
                have hc31_106 := hc31_105
                have hs104_106 := hs104_105
                have hg33_106 := hg33_105
                have hg34_106 := hg34_105
                have hg98_106 := hg98_105
                have hg105_106 := hg105
                have hd32_106 := hd32_105
                have ox51_106 := ox51_105
                have hS78_106 := hS78_105
                replace hc30_106 := hc30_106.kp hx106 (fun k (hk : k = g98) => by omega)
                replace hc31_106 := hc31_106.kp hx106 (fun k (hk : k = g98) => by omega)
                replace hs104_106 := hs104_106.kp hx106 (fun k (hk : k = g98) => by omega)
                replace hd32_106 : Sls.Ok _ _ _ s := Dat.kp (a := s) hd32_106 hx106 (fun k (hk : k = g98) => by omega)
                replace ox51_106 : TAct.Ok _ _ _ x51 := Dat.kp (a := x51) ox51_106 hx106 (fun k (hk : k = g98) => by omega)
                replace hg33_106 := hx106.blk hg33_106 (fun e => by have e : g9 = g98 := e; omega)
                replace hg34_106 := hx106.blk hg34_106 (fun e => by have e : g12 = g98 := e; omega)
                replace hg105_106 := hx106.blk hg105_106 (fun e => by have e : g103 = g98 := e; omega)
                replace hS78_106 := hS78_106.step hx106 (fun k hk hlt => by have hk : k = g98 := hk; first | omega | (show False; omega))
                replace hF := hF.step hx106 (fun k hk hlt => by have hk : k = g98 := hk; omega)
                refine endD (by kernel_rfl) hS78_106 ?_
                refine leJ (g103, g98, A104, c104) ⟨hc30_106, hc31_106, hs104_106, hd32_106, ox51_106, hg33_106, hg34_106, hg105_106, hg106, by (try dsimp only); omega, by (try dsimp only); omega, by (try dsimp only); omega, by (try dsimp only); omega, hF⟩ (by kernel_rfl)
          rintro ⟨g60, g61, A59, c59⟩ wj64 ⟨hc65, hc66, hc67, hd68, hd69, hg70, hg71, hg72, hg73, hge74, hge75, hne76, hz77, hF⟩
          try dsimp only at hc65
          try dsimp only at hc66
          try dsimp only at hc67
          try dsimp only at hd68
          try dsimp only at hd69
          try dsimp only at hg70
          try dsimp only at hg71
          try dsimp only at hg72
          try dsimp only at hg73
          try dsimp only at hge74
          try dsimp only at hge75
          try dsimp only at hne76
          try dsimp only at hz77
          try dsimp only at hF
          have hbl107 := blk_lt hg70
          have hbl108 := blk_lt hg71
          have hbl109 := blk_lt hg72
          have hbl110 := blk_lt hg73
          have hz111 := hF.size
          refine seg 2 [.op [1, 1, 1, 1, 1, 1, 0, 1, 0, 0, 1, 0, 0, 1, 0] 0, .co [1, 1, 1, 1, 1, 1, 0, 1, 0, 0, 1, 0, 0, 1, 1], .bl 3, .co [1, 1, 1, 1, 1, 1, 0, 1, 0, 0, 1, 1], .le 0, .bl 2, .co [1, 1, 1, 1, 1, 1, 1]] [(0, .slice A l.length cap), (1, .slice s.A s.l.length s.c), (6, .pointer (some (⟨g9, 0, none⟩))), (7, .pointer (some (⟨g12, 0, none⟩))), (9, .int .i64 (i : Int)), (10, .pointer (some (⟨g60, 0, none⟩))), (11, .pointer (some (⟨g61, 0, none⟩)))] (by kernel_rfl) ?_
          refine st (ldAggR (some 60) 66 (⟨g60, 0, none⟩) [.slice A l.length cap, .int .i64 (rdA x51.Do x51.N l a (rdE x51.Do x51.N l a e)), .int .i64 (rdE x51.Do x51.N l a e)] (by kernel_rfl) (by kernel_rfl) (blk_cells hg72 (by kernel_rfl)) ?_)
          refine st (stAggR none 66 g12 0 [.slice A l.length cap, .int .i64 (rdA x51.Do x51.N l a (rdE x51.Do x51.N l a e)), .int .i64 (rdE x51.Do x51.N l a e)] #[.slice A l.length cap, .int .i64 a, .int .i64 e] #[.slice A l.length cap, .int .i64 (rdA x51.Do x51.N l a (rdE x51.Do x51.N l a e)), .int .i64 (rdE x51.Do x51.N l a e)] 66 (by kernel_rfl) (by kernel_rfl) (by rfl) hg71 (by simp) (by rfl) ?_)
          intro w112 hx112 hg112 hz112
          replace hc65 := hc65.kp hx112 (fun k (hk : k = g12) => by omega)
          replace hc66 := hc66.kp hx112 (fun k (hk : k = g12) => by omega)
          replace hc67 := hc67.kp hx112 (fun k (hk : k = g12) => by omega)
          replace hd68 : Sls.Ok _ _ _ s := Dat.kp (a := s) hd68 hx112 (fun k (hk : k = g12) => by omega)
          replace hd69 : TAct.Ok _ _ _ x51 := Dat.kp (a := x51) hd69 hx112 (fun k (hk : k = g12) => by omega)
          replace hg70 := hx112.blk hg70 (fun e => by have e : g9 = g12 := e; omega)
          replace hg73 := hx112.blk hg73 (fun e => by have e : g61 = g12 := e; omega)
          replace hF := hF.step hx112 (fun k hk hlt => by have hk : k = g12 := hk; omega)
          refine seg 11 [.op [1, 1, 1, 1, 1, 1, 0, 1, 0, 0, 1, 0, 0, 1, 1, 1, 0, 0] 2, .co [1, 1, 1, 1, 1, 1, 0, 1, 0, 0, 1, 0, 0, 1, 1, 1, 0, 1], .co [1, 1, 1, 1, 1, 1, 0, 1, 0, 0, 1, 0, 0, 1, 1, 1, 1], .bl 3, .co [1, 1, 1, 1, 1, 1, 0, 1, 0, 0, 1, 1], .le 0, .bl 2, .co [1, 1, 1, 1, 1, 1, 1]] [(0, .slice A l.length cap), (1, .slice s.A s.l.length s.c), (6, .pointer (some (⟨g9, 0, none⟩))), (7, .pointer (some (⟨g12, 0, none⟩))), (9, .int .i64 (i : Int)), (11, .pointer (some (⟨g61, 0, none⟩))), (12, .int .u64 0), (13, .slice none 0 0), (61, .slice s.A s.l.length s.c), (62, .int .i64 (i : Int))] (by kernel_rfl) ?_
          obtain ⟨ad113, ea113, l1113, l2113, ca113⟩ := Cs.row (Sls.Ok.cs hd68) (n := 4) rfl (by decide) hx51
          refine st (idxR (some 63) 50 56 4 s.A ad113 s.l.length s.c .i64 (i : Int) (i * 4) ea113 (by kernel_rfl) (by kernel_rfl) (by omega) (by omega) (by omega) ?_)
          refine seg 1 [.op [1, 1, 1, 1, 1, 1, 0, 1, 0, 0, 1, 0, 0, 1, 1, 1, 0, 0] 4, .co [1, 1, 1, 1, 1, 1, 0, 1, 0, 0, 1, 0, 0, 1, 1, 1, 0, 1], .co [1, 1, 1, 1, 1, 1, 0, 1, 0, 0, 1, 0, 0, 1, 1, 1, 1], .bl 3, .co [1, 1, 1, 1, 1, 1, 0, 1, 0, 0, 1, 1], .le 0, .bl 2, .co [1, 1, 1, 1, 1, 1, 1]] [(0, .slice A l.length cap), (1, .slice s.A s.l.length s.c), (6, .pointer (some (⟨g9, 0, none⟩))), (7, .pointer (some (⟨g12, 0, none⟩))), (9, .int .i64 (i : Int)), (11, .pointer (some (⟨g61, 0, none⟩))), (12, .int .u64 0), (13, .slice none 0 0), (64, .pointer (some (ad113.add (i * 4))))] (by kernel_rfl) ?_
          refine st (ldR (some 65) 3 (ad113.add (i * 4)) (.int .i64 x51.Do) (by kernel_rfl) (by kernel_rfl) (add0 (ca113 0 _ rfl)) ?_)
          refine seg 7 [.co [1, 1, 1, 1, 1, 1, 0, 1, 0, 0, 1, 0, 0, 1, 1, 1, 0, 1, 0, 1], .bl 4, .co [1, 1, 1, 1, 1, 1, 0, 1, 0, 0, 1, 0, 0, 1, 1, 1, 1], .bl 3, .co [1, 1, 1, 1, 1, 1, 0, 1, 0, 0, 1, 1], .le 0, .bl 2, .co [1, 1, 1, 1, 1, 1, 1]] [(0, .slice A l.length cap), (1, .slice s.A s.l.length s.c), (6, .pointer (some (⟨g9, 0, none⟩))), (7, .pointer (some (⟨g12, 0, none⟩))), (9, .int .i64 (i : Int)), (11, .pointer (some (⟨g61, 0, none⟩))), (12, .int .u64 0), (13, .slice none 0 0), (65, .int .i64 x51.Do), (73, .bool (x51.Do == 0))] (by kernel_rfl) ?_
          rcases bsplit (x51.Do == 0) with hb114 | hb114
          · rw [hb114]
            have h114 : x51.Do = 0 := by simpa using hb114
            refine seg 5 [.op [1, 1, 1, 1, 1, 1, 0, 1, 0, 0, 1, 0, 0, 1, 1, 1, 0, 1, 0, 1, 0] 3, .bl 4, .co [1, 1, 1, 1, 1, 1, 0, 1, 0, 0, 1, 0, 0, 1, 1, 1, 1], .bl 3, .co [1, 1, 1, 1, 1, 1, 0, 1, 0, 0, 1, 1], .le 0, .bl 2, .co [1, 1, 1, 1, 1, 1, 1]] [(0, .slice A l.length cap), (1, .slice s.A s.l.length s.c), (6, .pointer (some (⟨g9, 0, none⟩))), (7, .pointer (some (⟨g12, 0, none⟩))), (9, .int .i64 (i : Int)), (11, .pointer (some (⟨g61, 0, none⟩))), (13, .slice none 0 0), (75, .pointer (some (⟨g9, 0, none⟩))), (76, .slice s.A s.l.length s.c), (77, .int .i64 (i : Int))] (by kernel_rfl) ?_
            obtain ⟨ad115, ea115, l1115, l2115, ca115⟩ := Cs.row (Sls.Ok.cs hd68) (n := 4) rfl (by decide) hx51
            refine st (idxR (some 78) 50 56 4 s.A ad115 s.l.length s.c .i64 (i : Int) (i * 4) ea115 (by kernel_rfl) (by kernel_rfl) (by omega) (by omega) (by omega) ?_)
            refine seg 1 [.op [1, 1, 1, 1, 1, 1, 0, 1, 0, 0, 1, 0, 0, 1, 1, 1, 0, 1, 0, 1, 0] 5, .bl 4, .co [1, 1, 1, 1, 1, 1, 0, 1, 0, 0, 1, 0, 0, 1, 1, 1, 1], .bl 3, .co [1, 1, 1, 1, 1, 1, 0, 1, 0, 0, 1, 1], .le 0, .bl 2, .co [1, 1, 1, 1, 1, 1, 1]] [(0, .slice A l.length cap), (1, .slice s.A s.l.length s.c), (6, .pointer (some (⟨g9, 0, none⟩))), (7, .pointer (some (⟨g12, 0, none⟩))), (9, .int .i64 (i : Int)), (11, .pointer (some (⟨g61, 0, none⟩))), (13, .slice none 0 0), (75, .pointer (some (⟨g9, 0, none⟩))), (79, .pointer (some ((ad115.add (i * 4)).add 1)))] (by kernel_rfl) ?_
            refine st (ldR (some 80) 3 ((ad115.add (i * 4)).add 1) (.int .i64 x51.N) (by kernel_rfl) (by kernel_rfl) (ca115 1 _ rfl) ?_)
            have q1 : (rdE x51.Do x51.N l a e) = (takeE l.length a e (numW x51.N)) := by simp [rdE, h114]
            have q2 : (rdA x51.Do x51.N l a (rdE x51.Do x51.N l a e)) = (takeA a (numW x51.N) (takeE l.length a e (numW x51.N))) := by rw [q1]; simp [rdA, h114]
            have q3 : (rdV x51.Do x51.N l a (rdE x51.Do x51.N l a e)) = (le (takeL l a (numW x51.N) (takeE l.length a e (numW x51.N))) : Nat) := by rw [q1]; simp [rdV, h114]
            have q4 : (rdL x51.Do x51.N l a (rdE x51.Do x51.N l a e)) = ([] : List UInt8) := by rw [q1]; simp [rdL, h114]
            rw [q2, q1] at hg112
            rw [q3, q4] at hg73
            rw [q4] at hc67
            have hll116 : (l).length = l.length := (by first | rfl | omega | (simp; omega))
            refine st (callR (some 81) 39 #[.pointer (some (⟨g9, 0, none⟩)), .int .i64 x51.N] Try.call39 (rnum_c w112 g9 A9 l.length c9 hc66 hll116 (by omega) a e hg70 (by omega) (by omega) x51.N (by omega) (by omega)) (by kernel_rfl) ?_)
            rintro _ w116 ⟨rfl, hx116, hg116⟩
            have hz116 := hx116.size
            replace hc65 := hc65.kp hx116 (fun k (hk : k = g9) => by omega)
            replace hc66 := hc66.kp hx116 (fun k (hk : k = g9) => by omega)
            replace hc67 := hc67.kp hx116 (fun k (hk : k = g9) => by omega)
            replace hd68 : Sls.Ok _ _ _ s := Dat.kp (a := s) hd68 hx116 (fun k (hk : k = g9) => by omega)
            replace hd69 : TAct.Ok _ _ _ x51 := Dat.kp (a := x51) hd69 hx116 (fun k (hk : k = g9) => by omega)
            replace hg112 := hx116.blk hg112 (fun e => by have e : g12 = g9 := e; omega)
            replace hg73 := hx116.blk hg73 (fun e => by have e : g61 = g9 := e; omega)
            replace hF := hF.step hx116 (fun k hk hlt => by have hk : k = g9 := hk; omega)
            have hat := takeA_at (len := l.length) (e := e) (n := numW x51.N) ha
            refine seg 6 [.op [1, 1, 1, 1, 1, 1, 0, 1, 0, 0, 1, 0, 0, 1, 1, 1, 1, 0] 1, .co [1, 1, 1, 1, 1, 1, 0, 1, 0, 0, 1, 0, 0, 1, 1, 1, 1, 1], .bl 3, .co [1, 1, 1, 1, 1, 1, 0, 1, 0, 0, 1, 1], .le 0, .bl 2, .co [1, 1, 1, 1, 1, 1, 1]] [(0, .slice A l.length cap), (1, .slice s.A s.l.length s.c), (6, .pointer (some (⟨g9, 0, none⟩))), (7, .pointer (some (⟨g12, 0, none⟩))), (9, .int .i64 (i : Int)), (11, .pointer (some (⟨g61, 0, none⟩))), (12, .int .u64 ((le (takeL l a (numW x51.N) (takeE l.length a e (numW x51.N))) : Nat) : Int)), (13, .slice none 0 0), (92, .pointer (some (⟨g9, 0, none⟩)))] (by kernel_rfl) ?_
            refine st (callR (some 93) 42 #[.pointer (some (⟨g9, 0, none⟩))] Try.call42 (rerr_c w116 g9 A9 l.length c9 (takeA a (numW x51.N) (takeE l.length a e (numW x51.N))) (takeE l.length a e (numW x51.N)) hg116 (by omega) (by omega)) (by kernel_rfl) ?_)
            rintro _ w117 ⟨rfl, hx117⟩
            have hz117 := hx117.size
            replace hc65 := hc65.ex hx117
            replace hc66 := hc66.ex hx117
            replace hc67 := hc67.ex hx117
            replace hd68 : Sls.Ok _ _ _ s := Dat.kp (a := s) hd68 hx117 (fun _ e => e.elim)
            replace hd69 : TAct.Ok _ _ _ x51 := Dat.kp (a := x51) hd69 hx117 (fun _ e => e.elim)
            replace hg116 := hx117.blk hg116 (fun e => e)
            replace hg112 := hx117.blk hg112 (fun e => e)
            replace hg73 := hx117.blk hg73 (fun e => e)
            replace hF := hF.ex hx117
            refine seg 8 [.co [1, 1, 1, 1, 1, 1, 0, 1, 0, 0, 1, 0, 0, 1, 1, 1, 1, 1, 0, 0], .co [1, 1, 1, 1, 1, 1, 0, 1, 0, 0, 1, 0, 0, 1, 1, 1, 1, 1, 0, 1], .co [1, 1, 1, 1, 1, 1, 0, 1, 0, 0, 1, 0, 0, 1, 1, 1, 1, 1, 1], .bl 3, .co [1, 1, 1, 1, 1, 1, 0, 1, 0, 0, 1, 1], .le 0, .bl 2, .co [1, 1, 1, 1, 1, 1, 1]] [(0, .slice A l.length cap), (1, .slice s.A s.l.length s.c), (6, .pointer (some (⟨g9, 0, none⟩))), (7, .pointer (some (⟨g12, 0, none⟩))), (9, .int .i64 (i : Int)), (11, .pointer (some (⟨g61, 0, none⟩))), (12, .int .u64 ((le (takeL l a (numW x51.N) (takeE l.length a e (numW x51.N))) : Nat) : Int)), (13, .slice none 0 0), (14, .int .i64 (takeA a (numW x51.N) (takeE l.length a e (numW x51.N)))), (15, .int .i64 (takeE l.length a e (numW x51.N)))] (by kernel_rfl) ?_
            refine drawT (fun _ => False) (by kernel_rfl) (by kernel_rfl) ?_
            intro w118 hx118 hz118
            have hc65_118 := hc65
            have hc66_118 := hc66
            have hc67_118 := hc67
            have hg116_118 := hg116
            have hg112_118 := hg112
            have hg73_118 := hg73
            have hd68_118 := hd68
            have hd69_118 := hd69
            replace hc65_118 := hc65_118.ex hx118
            replace hc66_118 := hc66_118.ex hx118
            replace hc67_118 := hc67_118.ex hx118
            replace hd68_118 : Sls.Ok _ _ _ s := Dat.kp (a := s) hd68_118 hx118 (fun _ e => e.elim)
            replace hd69_118 : TAct.Ok _ _ _ x51 := Dat.kp (a := x51) hd69_118 hx118 (fun _ e => e.elim)
            replace hg116_118 := hx118.blk hg116_118 (fun e => e)
            replace hg112_118 := hx118.blk hg112_118 (fun e => e)
            replace hg73_118 := hx118.blk hg73_118 (fun e => e)
            replace hF := hF.ex hx118
            have hS118 := Kp.refl (fun _ => False) w118
            refine segD [0, 1] [0, 1] [(0, .slice A l.length cap), (1, .slice s.A s.l.length s.c), (6, .pointer (some (⟨g9, 0, none⟩))), (7, .pointer (some (⟨g12, 0, none⟩))), (9, .int .i64 (i : Int)), (11, .pointer (some (⟨g61, 0, none⟩))), (13, .slice none 0 0), (14, .int .i64 (takeA a (numW x51.N) (takeE l.length a e (numW x51.N)))), (15, .int .i64 (takeE l.length a e (numW x51.N))), (96, .int .u64 ((le (takeL l a (numW x51.N) (takeE l.length a e (numW x51.N))) : Nat) : Int)), (97, .pointer (some (⟨g61, 0, none⟩)))] (by kernel_rfl) ?_
            refine stD (i := 2) (by kernel_rfl) hS118 (ldR (some 98) 24 (⟨g61, 0, none⟩) (.int .u64 ((le (takeL l a (numW x51.N) (takeE l.length a e (numW x51.N))) : Nat) : Int)) (by kernel_rfl) (by kernel_rfl) (blk_cell hg73_118 rfl) ?_)
            refine segD [3, 4] [0, 1, 2, 3, 4] [(0, .slice A l.length cap), (1, .slice s.A s.l.length s.c), (6, .pointer (some (⟨g9, 0, none⟩))), (7, .pointer (some (⟨g12, 0, none⟩))), (9, .int .i64 (i : Int)), (11, .pointer (some (⟨g61, 0, none⟩))), (13, .slice none 0 0), (14, .int .i64 (takeA a (numW x51.N) (takeE l.length a e (numW x51.N)))), (15, .int .i64 (takeE l.length a e (numW x51.N))), (100, .bool (((le (takeL l a (numW x51.N) (takeE l.length a e (numW x51.N))) : Nat) : Int) != ((le (takeL l a (numW x51.N) (takeE l.length a e (numW x51.N))) : Nat) : Int)))] (by kernel_rfl) ?_
            rw [show (((le (takeL l a (numW x51.N) (takeE l.length a e (numW x51.N))) : Nat) : Int) != ((le (takeL l a (numW x51.N) (takeE l.length a e (numW x51.N))) : Nat) : Int)) = false from by simp]
            refine segD [5, 7] [0, 1, 2, 3, 4, 5, 7] [(0, .slice A l.length cap), (1, .slice s.A s.l.length s.c), (6, .pointer (some (⟨g9, 0, none⟩))), (7, .pointer (some (⟨g12, 0, none⟩))), (9, .int .i64 (i : Int)), (13, .slice none 0 0), (14, .int .i64 (takeA a (numW x51.N) (takeE l.length a e (numW x51.N)))), (15, .int .i64 (takeE l.length a e (numW x51.N))), (100, .bool false), (101, .slice none 0 0), (103, .pointer (some (⟨g61, 1, none⟩)))] (by kernel_rfl) ?_
            refine takeD (i := 6) (d := (some 102)) (s := vS (convert 22 9 (.slice none 0 0))) (v := .string (⟨([]).toArray⟩)) (by kernel_rfl) (by kernel_rfl) (fun w' hw' => b2s_run _ _ 5 _ _ _ _ Try.underlying22 Try.underlying5 Try.underlying9 (Cs.kp (Cs.nil 0 0 w118 none) hw' (fun _ e => e.elim)) (by first | rfl | omega | (simp; done) | (simp; omega))) ?_
            refine stD (i := 8) (by kernel_rfl) hS118 (ldR (some 104) 22 (⟨g61, 1, none⟩) (.slice A59 (([] : List UInt8).length) c59) (by kernel_rfl) (by kernel_rfl) (blk_cell hg73_118 rfl) ?_)
            refine stD (i := 9) (by kernel_rfl) hS118 (b2sR (some 105) 22 9 5 A59 (([] : List UInt8).length) c59 ([] : List UInt8) Try.underlying22 Try.underlying5 Try.underlying9 (by kernel_rfl) hc67_118 (by first | rfl | omega | (simp; done) | (simp; omega)) ?_)
            refine segD [10, 11, 12] [0, 1, 2, 3, 4, 5, 7, 6, 8, 9, 10, 11, 12] [(0, .slice A l.length cap), (1, .slice s.A s.l.length s.c), (6, .pointer (some (⟨g9, 0, none⟩))), (7, .pointer (some (⟨g12, 0, none⟩))), (9, .int .i64 (i : Int)), (13, .slice none 0 0), (14, .int .i64 (takeA a (numW x51.N) (takeE l.length a e (numW x51.N)))), (15, .int .i64 (takeE l.length a e (numW x51.N))), (108, .bool (!(ByteArray.toList (⟨([]).toArray⟩) == ByteArray.toList (⟨([] : List UInt8).toArray⟩))))] (by kernel_rfl) ?_
            rw [show (ByteArray.toList (⟨([]).toArray⟩) == ByteArray.toList (⟨([] : List UInt8).toArray⟩)) = true from streq_t rfl]
            refine segD [13, 14] [0, 1, 2, 3, 4, 5, 7, 6, 8, 9, 10, 11, 12, 13, 14] [(0, .slice A l.length cap), (1, .slice s.A s.l.length s.c), (6, .pointer (some (⟨g9, 0, none⟩))), (7, .pointer (some (⟨g12, 0, none⟩))), (9, .int .i64 (i : Int)), (13, .slice none 0 0), (15, .int .i64 (takeE l.length a e (numW x51.N))), (108, .bool false), (109, .int .i64 (takeA a (numW x51.N) (takeE l.length a e (numW x51.N)))), (110, .pointer (some (⟨g12, 1, none⟩)))] (by kernel_rfl) ?_
            refine stD (i := 15) (by kernel_rfl) hS118 (ldR (some 111) 3 (⟨g12, 1, none⟩) (.int .i64 (takeA a (numW x51.N) (takeE l.length a e (numW x51.N)))) (by kernel_rfl) (by kernel_rfl) (blk_cell hg112_118 rfl) ?_)
            refine segD [16, 17, 18] [0, 1, 2, 3, 4, 5, 7, 6, 8, 9, 10, 11, 12, 13, 14, 15, 16, 17, 18] [(0, .slice A l.length cap), (1, .slice s.A s.l.length s.c), (6, .pointer (some (⟨g9, 0, none⟩))), (7, .pointer (some (⟨g12, 0, none⟩))), (9, .int .i64 (i : Int)), (13, .slice none 0 0), (15, .int .i64 (takeE l.length a e (numW x51.N))), (114, .bool ((takeA a (numW x51.N) (takeE l.length a e (numW x51.N))) != (takeA a (numW x51.N) (takeE l.length a e (numW x51.N)))))] (by kernel_rfl) ?_
            rw [show ((takeA a (numW x51.N) (takeE l.length a e (numW x51.N))) != (takeA a (numW x51.N) (takeE l.length a e (numW x51.N)))) = false from by simp]
            refine segD [19, 21] [0, 1, 2, 3, 4, 5, 7, 6, 8, 9, 10, 11, 12, 13, 14, 15, 16, 17, 18, 19, 21] [(0, .slice A l.length cap), (1, .slice s.A s.l.length s.c), (6, .pointer (some (⟨g9, 0, none⟩))), (7, .pointer (some (⟨g12, 0, none⟩))), (9, .int .i64 (i : Int)), (13, .slice none 0 0), (114, .bool false), (115, .int .i64 (takeE l.length a e (numW x51.N))), (117, .pointer (some (⟨g12, 2, none⟩)))] (by kernel_rfl) ?_
            refine takeD (i := 22) (d := (some 118)) (s := vS (Instr.loadAt 3 (.pointer (some (⟨g12, 2, none⟩))))) (v := .int .i64 (takeE l.length a e (numW x51.N))) (by kernel_rfl) (by kernel_rfl) (fun w' hw' => ld_run _ _ _ (by kernel_rfl) (hw'.cell (blk_cell hg112_118 rfl) (fun e => e))) ?_
            refine stD (i := 20) (by kernel_rfl) hS118 (callR (some 116) 18 #[.int .i64 (takeE l.length a e (numW x51.N))] Try.call18 (num_c w118 (takeE l.length a e (numW x51.N))) (by kernel_rfl) ?_)
            rintro _ _ ⟨rfl, rfl⟩
            refine segD [23, 24, 25] [0, 1, 2, 3, 4, 5, 7, 6, 8, 9, 10, 11, 12, 13, 14, 15, 16, 17, 18, 19, 21, 22, 20, 23, 24, 25] [(0, .slice A l.length cap), (1, .slice s.A s.l.length s.c), (6, .pointer (some (⟨g9, 0, none⟩))), (7, .pointer (some (⟨g12, 0, none⟩))), (9, .int .i64 (i : Int)), (13, .slice none 0 0), (121, .bool ((takeE l.length a e (numW x51.N)) != (takeE l.length a e (numW x51.N))))] (by kernel_rfl) ?_
            rw [show ((takeE l.length a e (numW x51.N)) != (takeE l.length a e (numW x51.N))) = false from by simp]
            refine segD [26, 28, 29, 30] [0, 1, 2, 3, 4, 5, 7, 6, 8, 9, 10, 11, 12, 13, 14, 15, 16, 17, 18, 19, 21, 22, 20, 23, 24, 25, 26, 28, 29, 30] [(0, .slice A l.length cap), (1, .slice s.A s.l.length s.c), (6, .pointer (some (⟨g9, 0, none⟩))), (7, .pointer (some (⟨g12, 0, none⟩))), (9, .int .i64 (i : Int)), (13, .slice none 0 0), (121, .bool false), (122, .pointer (some (⟨g9, 0, none⟩))), (125, .int .i64 (l.length : Int)), (126, .pointer (some (⟨g12, 1, none⟩)))] (by kernel_rfl) ?_
            refine takeD (i := 31) (d := (some 127)) (s := vS (Instr.loadAt 3 (.pointer (some (⟨g12, 1, none⟩))))) (v := .int .i64 (takeA a (numW x51.N) (takeE l.length a e (numW x51.N)))) (by kernel_rfl) (by kernel_rfl) (fun w' hw' => ld_run _ _ _ (by kernel_rfl) (hw'.cell (blk_cell hg112_118 rfl) (fun e => e))) ?_
            refine segD [32] [0, 1, 2, 3, 4, 5, 7, 6, 8, 9, 10, 11, 12, 13, 14, 15, 16, 17, 18, 19, 21, 22, 20, 23, 24, 25, 26, 28, 29, 30, 31, 32] [(0, .slice A l.length cap), (1, .slice s.A s.l.length s.c), (6, .pointer (some (⟨g9, 0, none⟩))), (7, .pointer (some (⟨g12, 0, none⟩))), (9, .int .i64 (i : Int)), (13, .slice none 0 0), (121, .bool false), (122, .pointer (some (⟨g9, 0, none⟩))), (128, .int .i64 (IntKind.i64.wrap ((l.length : Int) - (takeA a (numW x51.N) (takeE l.length a e (numW x51.N))))))] (by kernel_rfl) ?_
            rw [show IntKind.i64.wrap ((l.length : Int) - (takeA a (numW x51.N) (takeE l.length a e (numW x51.N)))) = ((l.length : Int) - (takeA a (numW x51.N) (takeE l.length a e (numW x51.N)))) from w64 (by omega)]
            refine stD (i := 27) (by kernel_rfl) hS118 (callR (some 123) 43 #[.pointer (some (⟨g9, 0, none⟩))] Try.call43 (rleft_c w118 g9 A9 l.length c9 (takeA a (numW x51.N) (takeE l.length a e (numW x51.N))) (takeE l.length a e (numW x51.N)) hg116_118 (by omega) (by omega)) (by kernel_rfl) ?_)
            rintro _ w119 ⟨rfl, hx119⟩
            have hz119 := hx119.size
            have hc65_119 := hc65_118
            have hc66_119 := hc66_118
            have hg116_119 := hg116_118
            have hg112_119 := hg112_118
            have hd68_119 := hd68_118
            have hd69_119 := hd69_118
            have hS118_119 := hS118
            replace hc65_119 := hc65_119.ex hx119
            replace hc66_119 := hc66_119.ex hx119
            replace hd68_119 : Sls.Ok _ _ _ s := Dat.kp (a := s) hd68_119 hx119 (fun _ e => e.elim)
            replace hd69_119 : TAct.Ok _ _ _ x51 := Dat.kp (a := x51) hd69_119 hx119 (fun _ e => e.elim)
            replace hg116_119 := hx119.blk hg116_119 (fun e => e)
            replace hg112_119 := hx119.blk hg112_119 (fun e => e)
            replace hS118_119 := hS118_119.ex hx119
            replace hF := hF.ex hx119
            refine segD [33, 34] [0, 1, 2, 3, 4, 5, 7, 6, 8, 9, 10, 11, 12, 13, 14, 15, 16, 17, 18, 19, 21, 22, 20, 23, 24, 25, 26, 28, 29, 30, 31, 32, 27, 33, 34] [(0, .slice A l.length cap), (1, .slice s.A s.l.length s.c), (6, .pointer (some (⟨g9, 0, none⟩))), (7, .pointer (some (⟨g12, 0, none⟩))), (9, .int .i64 (i : Int)), (13, .slice none 0 0), (130, .bool (((l.length : Int) - (takeA a (numW x51.N) (takeE l.length a e (numW x51.N)))) != ((l.length : Int) - (takeA a (numW x51.N) (takeE l.length a e (numW x51.N))))))] (by kernel_rfl) ?_
            refine endD (by kernel_rfl) hS118_119 ?_
            rw [show (((l.length : Int) - (takeA a (numW x51.N) (takeE l.length a e (numW x51.N)))) != ((l.length : Int) - (takeA a (numW x51.N) (takeE l.length a e (numW x51.N))))) = false from by simp]
            refine seg 7 [.co [1, 1, 1, 1, 1, 1, 0, 1, 0, 0, 1, 0, 0, 1, 1, 1, 1, 1, 1, 1, 0], .bl 5, .bl 3, .co [1, 1, 1, 1, 1, 1, 0, 1, 0, 0, 1, 1], .le 0, .bl 2, .co [1, 1, 1, 1, 1, 1, 1]] [(0, .slice A l.length cap), (1, .slice s.A s.l.length s.c), (6, .pointer (some (⟨g9, 0, none⟩))), (7, .pointer (some (⟨g12, 0, none⟩))), (9, .int .i64 (i : Int)), (13, .slice none 0 0), (16, .int .i64 0)] (by kernel_rfl) ?_
            refine loopR 1 (fun (x : Nat) => [(0, .slice A l.length cap), (1, .slice s.A s.l.length s.c), (6, .pointer (some (⟨g9, 0, none⟩))), (7, .pointer (some (⟨g12, 0, none⟩))), (9, .int .i64 (i : Int)), (13, .slice none 0 0), (16, .int .i64 (x : Int))]) (fun (x : Nat) (wl120 : World) => (x ≤ 0) ∧ Cs 0 w.heap.size wl120 A (bs l) ∧ Cs w8.heap.size g9 wl120 A9 (bs l) ∧ Sls.Ok 0 w.heap.size wl120 s ∧ TAct.Ok 0 w.heap.size wl120 x51 ∧ wl120.heap[g9]? = some (.cells #[.slice A9 l.length c9, .int .i64 (takeA a (numW x51.N) (takeE l.length a e (numW x51.N))), .int .i64 (takeE l.length a e (numW x51.N))] 98 (0, 0)) ∧ wl120.heap[g12]? = some (.cells #[.slice A l.length cap, .int .i64 (takeA a (numW x51.N) (takeE l.length a e (numW x51.N))), .int .i64 (takeE l.length a e (numW x51.N))] 66 (0, 0)) ∧ Ex w wl120) (fun (x : Nat) => 0 - x) (0) (by kernel_rfl) (by kernel_rfl) (by kernel_rfl) ?_ ?_
            · exact ⟨Nat.le_refl _, hc65_119, hc66_119, hd68_119, hd69_119, hg116_119, hg112_119, hF⟩
            rintro k wl120 ⟨hk, hc121, hc122, hd123, hd124, hg125, hg126, hF⟩
            have hzwl120 := hF.size
            have hbl127 := blk_lt hg125
            have hbl128 := blk_lt hg126
            refine seg 8 [.co [1, 1, 1, 1, 1, 1, 0, 1, 0, 0, 1, 0, 0, 1, 1, 1, 1, 1, 1, 1, 0, 0, 0, 1], .co [1, 1, 1, 1, 1, 1, 0, 1, 0, 0, 1, 0, 0, 1, 1, 1, 1, 1, 1, 1, 0, 0, 1], .le 1, .bl 5, .bl 3, .co [1, 1, 1, 1, 1, 1, 0, 1, 0, 0, 1, 1], .le 0, .bl 2, .co [1, 1, 1, 1, 1, 1, 1]] [(0, .slice A l.length cap), (1, .slice s.A s.l.length s.c), (6, .pointer (some (⟨g9, 0, none⟩))), (7, .pointer (some (⟨g12, 0, none⟩))), (9, .int .i64 (i : Int)), (13, .slice none 0 0), (16, .int .i64 (k : Int)), (134, .bool (decide ((k : Int) < 0)))] (by kernel_rfl) ?_
            rcases bsplit (decide ((k : Int) < 0)) with hb129 | hb129
            · rw [hb129]
              have h129 := of_decide_eq_true hb129
              exfalso; omega
            · rw [hb129]
              have h129 := of_decide_eq_false hb129
              refine seg 8 [.le 0, .bl 2, .co [1, 1, 1, 1, 1, 1, 1]] [(0, .slice A l.length cap), (1, .slice s.A s.l.length s.c), (6, .pointer (some (⟨g9, 0, none⟩))), (7, .pointer (some (⟨g12, 0, none⟩))), (9, .int .i64 (IntKind.i64.wrap ((i : Int) + 1)))] (by kernel_rfl) ?_
              rw [show IntKind.i64.wrap ((i : Int) + 1) = ((i : Int) + 1) from w64 (by omega)]
              refine leR_up (k' := []) (by rfl) ?_
              refine leR (i + 1, (takeA a (numW x51.N) (takeE l.length a e (numW x51.N))), (takeE l.length a e (numW x51.N))) (by dsimp only; omega) ⟨by dsimp only; omega, hat, hc121, hc122, hd123, hg125, hg126, hF⟩ (by kernel_rfl)
          · rw [hb114]
            have h114 : x51.Do ≠ 0 := by simpa using hb114
            refine seg 6 [.co [1, 1, 1, 1, 1, 1, 0, 1, 0, 0, 1, 0, 0, 1, 1, 1, 0, 1, 0, 1, 1, 1], .bl 4, .co [1, 1, 1, 1, 1, 1, 0, 1, 0, 0, 1, 0, 0, 1, 1, 1, 1], .bl 3, .co [1, 1, 1, 1, 1, 1, 0, 1, 0, 0, 1, 1], .le 0, .bl 2, .co [1, 1, 1, 1, 1, 1, 1]] [(0, .slice A l.length cap), (1, .slice s.A s.l.length s.c), (6, .pointer (some (⟨g9, 0, none⟩))), (7, .pointer (some (⟨g12, 0, none⟩))), (9, .int .i64 (i : Int)), (11, .pointer (some (⟨g61, 0, none⟩))), (12, .int .u64 0), (82, .bool (x51.Do == 2))] (by kernel_rfl) ?_
            rcases bsplit (x51.Do == 2) with hb130 | hb130
            · rw [hb130]
              have h130 : x51.Do = 2 := by simpa using hb130
              refine seg 5 [.op [1, 1, 1, 1, 1, 1, 0, 1, 0, 0, 1, 0, 0, 1, 1, 1, 0, 1, 0, 1, 1, 1, 0] 3, .bl 4, .co [1, 1, 1, 1, 1, 1, 0, 1, 0, 0, 1, 0, 0, 1, 1, 1, 1], .bl 3, .co [1, 1, 1, 1, 1, 1, 0, 1, 0, 0, 1, 1], .le 0, .bl 2, .co [1, 1, 1, 1, 1, 1, 1]] [(0, .slice A l.length cap), (1, .slice s.A s.l.length s.c), (6, .pointer (some (⟨g9, 0, none⟩))), (7, .pointer (some (⟨g12, 0, none⟩))), (9, .int .i64 (i : Int)), (11, .pointer (some (⟨g61, 0, none⟩))), (12, .int .u64 0), (84, .pointer (some (⟨g9, 0, none⟩))), (85, .slice s.A s.l.length s.c), (86, .int .i64 (i : Int))] (by kernel_rfl) ?_
              obtain ⟨ad131, ea131, l1131, l2131, ca131⟩ := Cs.row (Sls.Ok.cs hd68) (n := 4) rfl (by decide) hx51
              refine st (idxR (some 87) 50 56 4 s.A ad131 s.l.length s.c .i64 (i : Int) (i * 4) ea131 (by kernel_rfl) (by kernel_rfl) (by omega) (by omega) (by omega) ?_)
              refine seg 1 [.op [1, 1, 1, 1, 1, 1, 0, 1, 0, 0, 1, 0, 0, 1, 1, 1, 0, 1, 0, 1, 1, 1, 0] 5, .bl 4, .co [1, 1, 1, 1, 1, 1, 0, 1, 0, 0, 1, 0, 0, 1, 1, 1, 1], .bl 3, .co [1, 1, 1, 1, 1, 1, 0, 1, 0, 0, 1, 1], .le 0, .bl 2, .co [1, 1, 1, 1, 1, 1, 1]] [(0, .slice A l.length cap), (1, .slice s.A s.l.length s.c), (6, .pointer (some (⟨g9, 0, none⟩))), (7, .pointer (some (⟨g12, 0, none⟩))), (9, .int .i64 (i : Int)), (11, .pointer (some (⟨g61, 0, none⟩))), (12, .int .u64 0), (84, .pointer (some (⟨g9, 0, none⟩))), (88, .pointer (some ((ad131.add (i * 4)).add 1)))] (by kernel_rfl) ?_
              refine st (ldR (some 89) 3 ((ad131.add (i * 4)).add 1) (.int .i64 x51.N) (by kernel_rfl) (by kernel_rfl) (ca131 1 _ rfl) ?_)
              have q1 : (rdE x51.Do x51.N l a e) = (textE l a e x51.N) := by simp [rdE, h114, h130]
              have q2 : (rdA x51.Do x51.N l a (rdE x51.Do x51.N l a e)) = (textA l a (textE l a e x51.N)) := by rw [q1]; simp [rdA, h114, h130]
              have q3 : (rdV x51.Do x51.N l a (rdE x51.Do x51.N l a e)) = 0 := by rw [q1]; simp [rdV, h114, h130]
              have q4 : (rdL x51.Do x51.N l a (rdE x51.Do x51.N l a e)) = (textL l a (textE l a e x51.N)) := by rw [q1]; simp [rdL, h114, h130]
              rw [q2, q1] at hg112
              rw [q3, q4] at hg73
              rw [q4] at hc67
              have hll132 : (l).length = l.length := (by first | rfl | omega | (simp; omega))
              refine st (callR (some 90) 40 #[.pointer (some (⟨g9, 0, none⟩)), .int .i64 x51.N] Try.call40 (rtext_c w112 g9 A9 l.length c9 hc66 hll132 (by omega) a e hg70 (by omega) (by omega) x51.N (by omega) (by omega)) (by kernel_rfl) ?_)
              rintro _ w132 ⟨A132, c132, rfl, hn132, hx132, hg132⟩
              have hz132 := hx132.size
              have hc132 := own_cap hn132
              replace hc65 := hc65.kp hx132 (fun k (hk : k = g9) => by omega)
              replace hc66 := hc66.kp hx132 (fun k (hk : k = g9) => by omega)
              replace hc67 := hc67.kp hx132 (fun k (hk : k = g9) => by omega)
              replace hd68 : Sls.Ok _ _ _ s := Dat.kp (a := s) hd68 hx132 (fun k (hk : k = g9) => by omega)
              replace hd69 : TAct.Ok _ _ _ x51 := Dat.kp (a := x51) hd69 hx132 (fun k (hk : k = g9) => by omega)
              replace hg112 := hx132.blk hg112 (fun e => by have e : g12 = g9 := e; omega)
              replace hg73 := hx132.blk hg73 (fun e => by have e : g61 = g9 := e; omega)
              replace hF := hF.step hx132 (fun k hk hlt => by have hk : k = g9 := hk; omega)
              have hat := textA_at (most := x51.N) (e := e) (l := l) ha
              refine seg 6 [.op [1, 1, 1, 1, 1, 1, 0, 1, 0, 0, 1, 0, 0, 1, 1, 1, 1, 0] 1, .co [1, 1, 1, 1, 1, 1, 0, 1, 0, 0, 1, 0, 0, 1, 1, 1, 1, 1], .bl 3, .co [1, 1, 1, 1, 1, 1, 0, 1, 0, 0, 1, 1], .le 0, .bl 2, .co [1, 1, 1, 1, 1, 1, 1]] [(0, .slice A l.length cap), (1, .slice s.A s.l.length s.c), (6, .pointer (some (⟨g9, 0, none⟩))), (7, .pointer (some (⟨g12, 0, none⟩))), (9, .int .i64 (i : Int)), (11, .pointer (some (⟨g61, 0, none⟩))), (12, .int .u64 0), (13, .slice A132 ((textL l a (textE l a e x51.N)).length) c132), (92, .pointer (some (⟨g9, 0, none⟩)))] (by kernel_rfl) ?_
              have hlt134 := own_lt hn132
              refine st (callR (some 93) 42 #[.pointer (some (⟨g9, 0, none⟩))] Try.call42 (rerr_c w132 g9 A9 l.length c9 (textA l a (textE l a e x51.N)) (textE l a e x51.N) hg132 (by omega) (by omega)) (by kernel_rfl) ?_)
              rintro _ w133 ⟨rfl, hx133⟩
              have hz133 := hx133.size
              replace hc65 := hc65.ex hx133
              replace hc66 := hc66.ex hx133
              replace hc67 := hc67.ex hx133
              replace hn132 := own_ex hn132 hx133
              replace hd68 : Sls.Ok _ _ _ s := Dat.kp (a := s) hd68 hx133 (fun _ e => e.elim)
              replace hd69 : TAct.Ok _ _ _ x51 := Dat.kp (a := x51) hd69 hx133 (fun _ e => e.elim)
              replace hg132 := hx133.blk hg132 (fun e => e)
              replace hg112 := hx133.blk hg112 (fun e => e)
              replace hg73 := hx133.blk hg73 (fun e => e)
              replace hF := hF.ex hx133
              refine seg 8 [.co [1, 1, 1, 1, 1, 1, 0, 1, 0, 0, 1, 0, 0, 1, 1, 1, 1, 1, 0, 0], .co [1, 1, 1, 1, 1, 1, 0, 1, 0, 0, 1, 0, 0, 1, 1, 1, 1, 1, 0, 1], .co [1, 1, 1, 1, 1, 1, 0, 1, 0, 0, 1, 0, 0, 1, 1, 1, 1, 1, 1], .bl 3, .co [1, 1, 1, 1, 1, 1, 0, 1, 0, 0, 1, 1], .le 0, .bl 2, .co [1, 1, 1, 1, 1, 1, 1]] [(0, .slice A l.length cap), (1, .slice s.A s.l.length s.c), (6, .pointer (some (⟨g9, 0, none⟩))), (7, .pointer (some (⟨g12, 0, none⟩))), (9, .int .i64 (i : Int)), (11, .pointer (some (⟨g61, 0, none⟩))), (12, .int .u64 0), (13, .slice A132 ((textL l a (textE l a e x51.N)).length) c132), (14, .int .i64 (textA l a (textE l a e x51.N))), (15, .int .i64 (textE l a e x51.N))] (by kernel_rfl) ?_
              refine drawT (fun _ => False) (by kernel_rfl) (by kernel_rfl) ?_
              intro w135 hx135 hz135
              have hc65_135 := hc65
              have hc66_135 := hc66
              have hc67_135 := hc67
              have hn132_135 := hn132
              have hg132_135 := hg132
              have hg112_135 := hg112
              have hg73_135 := hg73
              have hd68_135 := hd68
              have hd69_135 := hd69
              replace hc65_135 := hc65_135.ex hx135
              replace hc66_135 := hc66_135.ex hx135
              replace hc67_135 := hc67_135.ex hx135
              replace hn132_135 := own_ex hn132_135 hx135
              replace hd68_135 : Sls.Ok _ _ _ s := Dat.kp (a := s) hd68_135 hx135 (fun _ e => e.elim)
              replace hd69_135 : TAct.Ok _ _ _ x51 := Dat.kp (a := x51) hd69_135 hx135 (fun _ e => e.elim)
              replace hg132_135 := hx135.blk hg132_135 (fun e => e)
              replace hg112_135 := hx135.blk hg112_135 (fun e => e)
              replace hg73_135 := hx135.blk hg73_135 (fun e => e)
              replace hF := hF.ex hx135
              have hS135 := Kp.refl (fun _ => False) w135
              refine segD [0, 1] [0, 1] [(0, .slice A l.length cap), (1, .slice s.A s.l.length s.c), (6, .pointer (some (⟨g9, 0, none⟩))), (7, .pointer (some (⟨g12, 0, none⟩))), (9, .int .i64 (i : Int)), (11, .pointer (some (⟨g61, 0, none⟩))), (13, .slice A132 ((textL l a (textE l a e x51.N)).length) c132), (14, .int .i64 (textA l a (textE l a e x51.N))), (15, .int .i64 (textE l a e x51.N)), (96, .int .u64 0), (97, .pointer (some (⟨g61, 0, none⟩)))] (by kernel_rfl) ?_
              refine stD (i := 2) (by kernel_rfl) hS135 (ldR (some 98) 24 (⟨g61, 0, none⟩) (.int .u64 0) (by kernel_rfl) (by kernel_rfl) (blk_cell hg73_135 rfl) ?_)
              refine segD [3, 4, 5, 7] [0, 1, 2, 3, 4, 5, 7] [(0, .slice A l.length cap), (1, .slice s.A s.l.length s.c), (6, .pointer (some (⟨g9, 0, none⟩))), (7, .pointer (some (⟨g12, 0, none⟩))), (9, .int .i64 (i : Int)), (13, .slice A132 ((textL l a (textE l a e x51.N)).length) c132), (14, .int .i64 (textA l a (textE l a e x51.N))), (15, .int .i64 (textE l a e x51.N)), (100, .bool false), (101, .slice A132 ((textL l a (textE l a e x51.N)).length) c132), (103, .pointer (some (⟨g61, 1, none⟩)))] (by kernel_rfl) ?_
              refine takeD (i := 6) (d := (some 102)) (s := vS (convert 22 9 (.slice A132 ((textL l a (textE l a e x51.N)).length) c132))) (v := .string (⟨(textL l a (textE l a e x51.N)).toArray⟩)) (by kernel_rfl) (by kernel_rfl) (fun w' hw' => b2s_run _ _ 5 _ _ _ _ Try.underlying22 Try.underlying5 Try.underlying9 (Cs.kp (Cs.of_own hn132_135) hw' (fun _ e => e.elim)) (by first | rfl | omega | (simp; done) | (simp; omega))) ?_
              refine stD (i := 8) (by kernel_rfl) hS135 (ldR (some 104) 22 (⟨g61, 1, none⟩) (.slice A59 ((textL l a (textE l a e x51.N)).length) c59) (by kernel_rfl) (by kernel_rfl) (blk_cell hg73_135 rfl) ?_)
              refine stD (i := 9) (by kernel_rfl) hS135 (b2sR (some 105) 22 9 5 A59 ((textL l a (textE l a e x51.N)).length) c59 (textL l a (textE l a e x51.N)) Try.underlying22 Try.underlying5 Try.underlying9 (by kernel_rfl) hc67_135 (by first | rfl | omega | (simp; done) | (simp; omega)) ?_)
              refine segD [10, 11, 12] [0, 1, 2, 3, 4, 5, 7, 6, 8, 9, 10, 11, 12] [(0, .slice A l.length cap), (1, .slice s.A s.l.length s.c), (6, .pointer (some (⟨g9, 0, none⟩))), (7, .pointer (some (⟨g12, 0, none⟩))), (9, .int .i64 (i : Int)), (13, .slice A132 ((textL l a (textE l a e x51.N)).length) c132), (14, .int .i64 (textA l a (textE l a e x51.N))), (15, .int .i64 (textE l a e x51.N)), (108, .bool (!(ByteArray.toList (⟨(textL l a (textE l a e x51.N)).toArray⟩) == ByteArray.toList (⟨(textL l a (textE l a e x51.N)).toArray⟩))))] (by kernel_rfl) ?_
              rw [show (ByteArray.toList (⟨(textL l a (textE l a e x51.N)).toArray⟩) == ByteArray.toList (⟨(textL l a (textE l a e x51.N)).toArray⟩)) = true from streq_t rfl]
              refine segD [13, 14] [0, 1, 2, 3, 4, 5, 7, 6, 8, 9, 10, 11, 12, 13, 14] [(0, .slice A l.length cap), (1, .slice s.A s.l.length s.c), (6, .pointer (some (⟨g9, 0, none⟩))), (7, .pointer (some (⟨g12, 0, none⟩))), (9, .int .i64 (i : Int)), (13, .slice A132 ((textL l a (textE l a e x51.N)).length) c132), (15, .int .i64 (textE l a e x51.N)), (108, .bool false), (109, .int .i64 (textA l a (textE l a e x51.N))), (110, .pointer (some (⟨g12, 1, none⟩)))] (by kernel_rfl) ?_
              refine stD (i := 15) (by kernel_rfl) hS135 (ldR (some 111) 3 (⟨g12, 1, none⟩) (.int .i64 (textA l a (textE l a e x51.N))) (by kernel_rfl) (by kernel_rfl) (blk_cell hg112_135 rfl) ?_)
              refine segD [16, 17, 18] [0, 1, 2, 3, 4, 5, 7, 6, 8, 9, 10, 11, 12, 13, 14, 15, 16, 17, 18] [(0, .slice A l.length cap), (1, .slice s.A s.l.length s.c), (6, .pointer (some (⟨g9, 0, none⟩))), (7, .pointer (some (⟨g12, 0, none⟩))), (9, .int .i64 (i : Int)), (13, .slice A132 ((textL l a (textE l a e x51.N)).length) c132), (15, .int .i64 (textE l a e x51.N)), (114, .bool ((textA l a (textE l a e x51.N)) != (textA l a (textE l a e x51.N))))] (by kernel_rfl) ?_
              rw [show ((textA l a (textE l a e x51.N)) != (textA l a (textE l a e x51.N))) = false from by simp]
              refine segD [19, 21] [0, 1, 2, 3, 4, 5, 7, 6, 8, 9, 10, 11, 12, 13, 14, 15, 16, 17, 18, 19, 21] [(0, .slice A l.length cap), (1, .slice s.A s.l.length s.c), (6, .pointer (some (⟨g9, 0, none⟩))), (7, .pointer (some (⟨g12, 0, none⟩))), (9, .int .i64 (i : Int)), (13, .slice A132 ((textL l a (textE l a e x51.N)).length) c132), (114, .bool false), (115, .int .i64 (textE l a e x51.N)), (117, .pointer (some (⟨g12, 2, none⟩)))] (by kernel_rfl) ?_
              refine takeD (i := 22) (d := (some 118)) (s := vS (Instr.loadAt 3 (.pointer (some (⟨g12, 2, none⟩))))) (v := .int .i64 (textE l a e x51.N)) (by kernel_rfl) (by kernel_rfl) (fun w' hw' => ld_run _ _ _ (by kernel_rfl) (hw'.cell (blk_cell hg112_135 rfl) (fun e => e))) ?_
              have hlt136 := own_lt hn132_135
              refine stD (i := 20) (by kernel_rfl) hS135 (callR (some 116) 18 #[.int .i64 (textE l a e x51.N)] Try.call18 (num_c w135 (textE l a e x51.N)) (by kernel_rfl) ?_)
              rintro _ _ ⟨rfl, rfl⟩
              refine segD [23, 24, 25] [0, 1, 2, 3, 4, 5, 7, 6, 8, 9, 10, 11, 12, 13, 14, 15, 16, 17, 18, 19, 21, 22, 20, 23, 24, 25] [(0, .slice A l.length cap), (1, .slice s.A s.l.length s.c), (6, .pointer (some (⟨g9, 0, none⟩))), (7, .pointer (some (⟨g12, 0, none⟩))), (9, .int .i64 (i : Int)), (13, .slice A132 ((textL l a (textE l a e x51.N)).length) c132), (121, .bool ((textE l a e x51.N) != (textE l a e x51.N)))] (by kernel_rfl) ?_
              rw [show ((textE l a e x51.N) != (textE l a e x51.N)) = false from by simp]
              refine segD [26, 28, 29, 30] [0, 1, 2, 3, 4, 5, 7, 6, 8, 9, 10, 11, 12, 13, 14, 15, 16, 17, 18, 19, 21, 22, 20, 23, 24, 25, 26, 28, 29, 30] [(0, .slice A l.length cap), (1, .slice s.A s.l.length s.c), (6, .pointer (some (⟨g9, 0, none⟩))), (7, .pointer (some (⟨g12, 0, none⟩))), (9, .int .i64 (i : Int)), (13, .slice A132 ((textL l a (textE l a e x51.N)).length) c132), (121, .bool false), (122, .pointer (some (⟨g9, 0, none⟩))), (125, .int .i64 (l.length : Int)), (126, .pointer (some (⟨g12, 1, none⟩)))] (by kernel_rfl) ?_
              refine takeD (i := 31) (d := (some 127)) (s := vS (Instr.loadAt 3 (.pointer (some (⟨g12, 1, none⟩))))) (v := .int .i64 (textA l a (textE l a e x51.N))) (by kernel_rfl) (by kernel_rfl) (fun w' hw' => ld_run _ _ _ (by kernel_rfl) (hw'.cell (blk_cell hg112_135 rfl) (fun e => e))) ?_
              refine segD [32] [0, 1, 2, 3, 4, 5, 7, 6, 8, 9, 10, 11, 12, 13, 14, 15, 16, 17, 18, 19, 21, 22, 20, 23, 24, 25, 26, 28, 29, 30, 31, 32] [(0, .slice A l.length cap), (1, .slice s.A s.l.length s.c), (6, .pointer (some (⟨g9, 0, none⟩))), (7, .pointer (some (⟨g12, 0, none⟩))), (9, .int .i64 (i : Int)), (13, .slice A132 ((textL l a (textE l a e x51.N)).length) c132), (121, .bool false), (122, .pointer (some (⟨g9, 0, none⟩))), (128, .int .i64 (IntKind.i64.wrap ((l.length : Int) - (textA l a (textE l a e x51.N)))))] (by kernel_rfl) ?_
              rw [show IntKind.i64.wrap ((l.length : Int) - (textA l a (textE l a e x51.N))) = ((l.length : Int) - (textA l a (textE l a e x51.N))) from w64 (by omega)]
              have hlt138 := own_lt hn132_135
              refine stD (i := 27) (by kernel_rfl) hS135 (callR (some 123) 43 #[.pointer (some (⟨g9, 0, none⟩))] Try.call43 (rleft_c w135 g9 A9 l.length c9 (textA l a (textE l a e x51.N)) (textE l a e x51.N) hg132_135 (by omega) (by omega)) (by kernel_rfl) ?_)
              rintro _ w137 ⟨rfl, hx137⟩
              have hz137 := hx137.size
              have hc65_137 := hc65_135
              have hc66_137 := hc66_135
              have hn132_137 := hn132_135
              have hg132_137 := hg132_135
              have hg112_137 := hg112_135
              have hd68_137 := hd68_135
              have hd69_137 := hd69_135
              have hS135_137 := hS135
              replace hc65_137 := hc65_137.ex hx137
              replace hc66_137 := hc66_137.ex hx137
              replace hn132_137 := own_ex hn132_137 hx137
              replace hd68_137 : Sls.Ok _ _ _ s := Dat.kp (a := s) hd68_137 hx137 (fun _ e => e.elim)
              replace hd69_137 : TAct.Ok _ _ _ x51 := Dat.kp (a := x51) hd69_137 hx137 (fun _ e => e.elim)
              replace hg132_137 := hx137.blk hg132_137 (fun e => e)
              replace hg112_137 := hx137.blk hg112_137 (fun e => e)
              replace hS135_137 := hS135_137.ex hx137
              replace hF := hF.ex hx137
              refine segD [33, 34] [0, 1, 2, 3, 4, 5, 7, 6, 8, 9, 10, 11, 12, 13, 14, 15, 16, 17, 18, 19, 21, 22, 20, 23, 24, 25, 26, 28, 29, 30, 31, 32, 27, 33, 34] [(0, .slice A l.length cap), (1, .slice s.A s.l.length s.c), (6, .pointer (some (⟨g9, 0, none⟩))), (7, .pointer (some (⟨g12, 0, none⟩))), (9, .int .i64 (i : Int)), (13, .slice A132 ((textL l a (textE l a e x51.N)).length) c132), (130, .bool (((l.length : Int) - (textA l a (textE l a e x51.N))) != ((l.length : Int) - (textA l a (textE l a e x51.N)))))] (by kernel_rfl) ?_
              refine endD (by kernel_rfl) hS135_137 ?_
              rw [show (((l.length : Int) - (textA l a (textE l a e x51.N))) != ((l.length : Int) - (textA l a (textE l a e x51.N)))) = false from by simp]
              refine seg 7 [.co [1, 1, 1, 1, 1, 1, 0, 1, 0, 0, 1, 0, 0, 1, 1, 1, 1, 1, 1, 1, 0], .bl 5, .bl 3, .co [1, 1, 1, 1, 1, 1, 0, 1, 0, 0, 1, 1], .le 0, .bl 2, .co [1, 1, 1, 1, 1, 1, 1]] [(0, .slice A l.length cap), (1, .slice s.A s.l.length s.c), (6, .pointer (some (⟨g9, 0, none⟩))), (7, .pointer (some (⟨g12, 0, none⟩))), (9, .int .i64 (i : Int)), (13, .slice A132 ((textL l a (textE l a e x51.N)).length) c132), (16, .int .i64 0)] (by kernel_rfl) ?_
              refine loopR 1 (fun (x : Nat × List UInt8) => [(0, .slice A l.length cap), (1, .slice s.A s.l.length s.c), (6, .pointer (some (⟨g9, 0, none⟩))), (7, .pointer (some (⟨g12, 0, none⟩))), (9, .int .i64 (i : Int)), (13, .slice A132 ((textL l a (textE l a e x51.N)).length) c132), (16, .int .i64 (x.1 : Int))]) (fun (x : Nat × List UInt8) (wl139 : World) => (x.1 ≤ (textL l a (textE l a e x51.N)).length) ∧ (x.2.length = (textL l a (textE l a e x51.N)).length) ∧ Cs 0 w.heap.size wl139 A (bs l) ∧ Cs w8.heap.size g9 wl139 A9 (bs l) ∧ Sls.Ok 0 w.heap.size wl139 s ∧ TAct.Ok 0 w.heap.size wl139 x51 ∧ wl139.ownsRow w112.heap.size 5 1 (.slice A132 ((textL l a (textE l a e x51.N)).length) c132) ((textL l a (textE l a e x51.N)).length) (bs x.2) ∧ wl139.heap[g9]? = some (.cells #[.slice A9 l.length c9, .int .i64 (textA l a (textE l a e x51.N)), .int .i64 (textE l a e x51.N)] 98 (0, 0)) ∧ wl139.heap[g12]? = some (.cells #[.slice A l.length cap, .int .i64 (textA l a (textE l a e x51.N)), .int .i64 (textE l a e x51.N)] 66 (0, 0)) ∧ Ex w wl139) (fun (x : Nat × List UInt8) => (textL l a (textE l a e x51.N)).length - x.1) (0, (textL l a (textE l a e x51.N))) (by kernel_rfl) (by kernel_rfl) (by kernel_rfl) ?_ ?_
              · exact ⟨Nat.zero_le _, rfl, hc65_137, hc66_137, hd68_137, hd69_137, hn132_137, hg132_137, hg112_137, hF⟩
              rintro ⟨k, m⟩ wl139 ⟨hk, hm, hc140, hc141, hd142, hd143, hn144, hg145, hg146, hF⟩
              try dsimp only at hk
              try dsimp only at hm
              try dsimp only at hc140
              try dsimp only at hc141
              try dsimp only at hd142
              try dsimp only at hd143
              try dsimp only at hn144
              try dsimp only at hg145
              try dsimp only at hg146
              try dsimp only at hF
              have hzwl139 := hF.size
              have hbl147 := blk_lt hg145
              have hbl148 := blk_lt hg146
              refine seg 8 [.co [1, 1, 1, 1, 1, 1, 0, 1, 0, 0, 1, 0, 0, 1, 1, 1, 1, 1, 1, 1, 0, 0, 0, 1], .co [1, 1, 1, 1, 1, 1, 0, 1, 0, 0, 1, 0, 0, 1, 1, 1, 1, 1, 1, 1, 0, 0, 1], .le 1, .bl 5, .bl 3, .co [1, 1, 1, 1, 1, 1, 0, 1, 0, 0, 1, 1], .le 0, .bl 2, .co [1, 1, 1, 1, 1, 1, 1]] [(0, .slice A l.length cap), (1, .slice s.A s.l.length s.c), (6, .pointer (some (⟨g9, 0, none⟩))), (7, .pointer (some (⟨g12, 0, none⟩))), (9, .int .i64 (i : Int)), (13, .slice A132 ((textL l a (textE l a e x51.N)).length) c132), (16, .int .i64 (k : Int)), (134, .bool (decide ((k : Int) < ((textL l a (textE l a e x51.N)).length : Int))))] (by kernel_rfl) ?_
              rcases bsplit (decide ((k : Int) < ((textL l a (textE l a e x51.N)).length : Int))) with hb149 | hb149
              · rw [hb149]
                have h149 := of_decide_eq_true hb149
                refine seg 7 [.op [1, 1, 1, 1, 1, 1, 0, 1, 0, 0, 1, 0, 0, 1, 1, 1, 1, 1, 1, 1, 0, 0, 1, 0, 0] 2, .bl 6, .co [1, 1, 1, 1, 1, 1, 0, 1, 0, 0, 1, 0, 0, 1, 1, 1, 1, 1, 1, 1, 0, 0, 1, 1], .le 1, .bl 5, .bl 3, .co [1, 1, 1, 1, 1, 1, 0, 1, 0, 0, 1, 1], .le 0, .bl 2, .co [1, 1, 1, 1, 1, 1, 1]] [(0, .slice A l.length cap), (1, .slice s.A s.l.length s.c), (6, .pointer (some (⟨g9, 0, none⟩))), (7, .pointer (some (⟨g12, 0, none⟩))), (9, .int .i64 (i : Int)), (13, .slice A132 ((textL l a (textE l a e x51.N)).length) c132), (16, .int .i64 (k : Int)), (137, .slice A132 ((textL l a (textE l a e x51.N)).length) c132), (138, .int .i64 (k : Int))] (by kernel_rfl) ?_
                have u151 := UInt8.toNat_lt (m.getD k 0)
                obtain ⟨ad150, ea150, l1150, l2150, ca150⟩ := (Cs.of_own hn144).at2 (bs_get m k (by omega))
                refine st (idxR (some 139) 22 5 1 A132 ad150 ((textL l a (textE l a e x51.N)).length) c132 .i64 (k : Int) k ea150 (by kernel_rfl) (by kernel_rfl) (by omega) (by omega) (by omega) ?_)
                refine st (ldR (some 140) 5 (ad150.add k) (.int .u8 ((m.getD k 0).toNat : Int)) (by kernel_rfl) (by kernel_rfl) ca150 ?_)
                refine seg 1 [.op [1, 1, 1, 1, 1, 1, 0, 1, 0, 0, 1, 0, 0, 1, 1, 1, 1, 1, 1, 1, 0, 0, 1, 0, 0] 5, .bl 6, .co [1, 1, 1, 1, 1, 1, 0, 1, 0, 0, 1, 0, 0, 1, 1, 1, 1, 1, 1, 1, 0, 0, 1, 1], .le 1, .bl 5, .bl 3, .co [1, 1, 1, 1, 1, 1, 0, 1, 0, 0, 1, 1], .le 0, .bl 2, .co [1, 1, 1, 1, 1, 1, 1]] [(0, .slice A l.length cap), (1, .slice s.A s.l.length s.c), (6, .pointer (some (⟨g9, 0, none⟩))), (7, .pointer (some (⟨g12, 0, none⟩))), (9, .int .i64 (i : Int)), (13, .slice A132 ((textL l a (textE l a e x51.N)).length) c132), (16, .int .i64 (k : Int)), (137, .slice A132 ((textL l a (textE l a e x51.N)).length) c132), (138, .int .i64 (k : Int)), (141, .int .u8 (IntKind.u8.wrap (((m.getD k 0).toNat : Int) + 1)))] (by kernel_rfl) ?_
                rw [show IntKind.u8.wrap (((m.getD k 0).toNat : Int) + 1) = ((m.getD k 0 + 1).toNat : Int) from wrap_succ _]
                have u153 := UInt8.toNat_lt (m.getD k 0)
                obtain ⟨ad152, ea152, l1152, l2152, ca152⟩ := (Cs.of_own hn144).at2 (bs_get m k (by omega))
                refine st (idxR (some 142) 22 5 1 A132 ad152 ((textL l a (textE l a e x51.N)).length) c132 .i64 (k : Int) k ea152 (by kernel_rfl) (by kernel_rfl) (by omega) (by omega) (by omega) ?_)
                refine st (stOwnR none 5 w112.heap.size 5 1 A132 ((textL l a (textE l a e x51.N)).length) c132 (bs m) ad152 k (.int .u8 ((m.getD k 0 + 1).toNat : Int)) (by kernel_rfl) (by kernel_rfl) rfl hn144 ea152 (by first | (rw [bs_length]; omega) | (simp; omega)) ?_)
                intro w154 hn154 hx154 hz154
                replace hc140 := hc140.kp hx154 (fun k hk => by first | exact .inr (by have := own_ge hn144 hk; omega) | exact .inl (by have := hlt134 k hk; omega) | exact .inl (by have := hlt136 k hk; omega) | exact .inl (by have := hlt138 k hk; omega))
                replace hc141 := hc141.kp hx154 (fun k hk => by first | exact .inr (by have := own_ge hn144 hk; omega) | exact .inl (by have := hlt134 k hk; omega) | exact .inl (by have := hlt136 k hk; omega) | exact .inl (by have := hlt138 k hk; omega))
                replace hd142 : Sls.Ok _ _ _ s := Dat.kp (a := s) hd142 hx154 (fun k hk => by first | exact .inr (by have := own_ge hn144 hk; omega) | exact .inl (by have := hlt134 k hk; omega) | exact .inl (by have := hlt136 k hk; omega) | exact .inl (by have := hlt138 k hk; omega))
                replace hd143 : TAct.Ok _ _ _ x51 := Dat.kp (a := x51) hd143 hx154 (fun k hk => by first | exact .inr (by have := own_ge hn144 hk; omega) | exact .inl (by have := hlt134 k hk; omega) | exact .inl (by have := hlt136 k hk; omega) | exact .inl (by have := hlt138 k hk; omega))
                replace hg145 := hx154.blk hg145 (fun e => by first | (have := own_ge hn144 e; omega) | (have := hlt134 _ e; omega) | (have := hlt136 _ e; omega) | (have := hlt138 _ e; omega))
                replace hg146 := hx154.blk hg146 (fun e => by first | (have := own_ge hn144 e; omega) | (have := hlt134 _ e; omega) | (have := hlt136 _ e; omega) | (have := hlt138 _ e; omega))
                replace hF := hF.step hx154 (fun k hk hlt => absurd (own_ge hn144 hk) (by omega))
                rw [bs_set] at hn154
                refine seg 7 [.le 1, .bl 5, .bl 3, .co [1, 1, 1, 1, 1, 1, 0, 1, 0, 0, 1, 1], .le 0, .bl 2, .co [1, 1, 1, 1, 1, 1, 1]] [(0, .slice A l.length cap), (1, .slice s.A s.l.length s.c), (6, .pointer (some (⟨g9, 0, none⟩))), (7, .pointer (some (⟨g12, 0, none⟩))), (9, .int .i64 (i : Int)), (13, .slice A132 ((textL l a (textE l a e x51.N)).length) c132), (16, .int .i64 (IntKind.i64.wrap ((k : Int) + 1)))] (by kernel_rfl) ?_
                rw [show IntKind.i64.wrap ((k : Int) + 1) = ((k : Int) + 1) from w64 (by omega)]
                refine leR (k + 1, (m.set k (m.getD k 0 + 1))) (by dsimp only; omega) ⟨by dsimp only; omega, by dsimp only; rw [List.length_set]; exact hm, hc140, hc141, hd142, hd143, hn154, hg145, hg146, hF⟩ (by kernel_rfl)
              · rw [hb149]
                have h149 := of_decide_eq_false hb149
                refine seg 8 [.le 0, .bl 2, .co [1, 1, 1, 1, 1, 1, 1]] [(0, .slice A l.length cap), (1, .slice s.A s.l.length s.c), (6, .pointer (some (⟨g9, 0, none⟩))), (7, .pointer (some (⟨g12, 0, none⟩))), (9, .int .i64 (IntKind.i64.wrap ((i : Int) + 1)))] (by kernel_rfl) ?_
                rw [show IntKind.i64.wrap ((i : Int) + 1) = ((i : Int) + 1) from w64 (by omega)]
                refine leR_up (k' := []) (by rfl) ?_
                refine leR (i + 1, (textA l a (textE l a e x51.N)), (textE l a e x51.N)) (by dsimp only; omega) ⟨by dsimp only; omega, hat, hc140, hc141, hd142, hg145, hg146, hF⟩ (by kernel_rfl)
            · rw [hb130]
              have h130 : x51.Do ≠ 2 := by simpa using hb130
              refine seg 5 [.op [1, 1, 1, 1, 1, 1, 0, 1, 0, 0, 1, 0, 0, 1, 1, 1, 0, 1, 0, 1, 1, 1, 1] 3, .bl 4, .co [1, 1, 1, 1, 1, 1, 0, 1, 0, 0, 1, 0, 0, 1, 1, 1, 1], .bl 3, .co [1, 1, 1, 1, 1, 1, 0, 1, 0, 0, 1, 1], .le 0, .bl 2, .co [1, 1, 1, 1, 1, 1, 1]] [(0, .slice A l.length cap), (1, .slice s.A s.l.length s.c), (6, .pointer (some (⟨g9, 0, none⟩))), (7, .pointer (some (⟨g12, 0, none⟩))), (9, .int .i64 (i : Int)), (11, .pointer (some (⟨g61, 0, none⟩))), (12, .int .u64 0), (66, .pointer (some (⟨g9, 0, none⟩))), (67, .slice s.A s.l.length s.c), (68, .int .i64 (i : Int))] (by kernel_rfl) ?_
              obtain ⟨ad155, ea155, l1155, l2155, ca155⟩ := Cs.row (Sls.Ok.cs hd68) (n := 4) rfl (by decide) hx51
              refine st (idxR (some 69) 50 56 4 s.A ad155 s.l.length s.c .i64 (i : Int) (i * 4) ea155 (by kernel_rfl) (by kernel_rfl) (by omega) (by omega) (by omega) ?_)
              refine seg 1 [.op [1, 1, 1, 1, 1, 1, 0, 1, 0, 0, 1, 0, 0, 1, 1, 1, 0, 1, 0, 1, 1, 1, 1] 5, .bl 4, .co [1, 1, 1, 1, 1, 1, 0, 1, 0, 0, 1, 0, 0, 1, 1, 1, 1], .bl 3, .co [1, 1, 1, 1, 1, 1, 0, 1, 0, 0, 1, 1], .le 0, .bl 2, .co [1, 1, 1, 1, 1, 1, 1]] [(0, .slice A l.length cap), (1, .slice s.A s.l.length s.c), (6, .pointer (some (⟨g9, 0, none⟩))), (7, .pointer (some (⟨g12, 0, none⟩))), (9, .int .i64 (i : Int)), (11, .pointer (some (⟨g61, 0, none⟩))), (12, .int .u64 0), (66, .pointer (some (⟨g9, 0, none⟩))), (70, .pointer (some ((ad155.add (i * 4)).add 1)))] (by kernel_rfl) ?_
              refine st (ldR (some 71) 3 ((ad155.add (i * 4)).add 1) (.int .i64 x51.N) (by kernel_rfl) (by kernel_rfl) (ca155 1 _ rfl) ?_)
              have q1 : (rdE x51.Do x51.N l a e) = (takeE l.length a e x51.N) := by simp [rdE, h114, h130]
              have q2 : (rdA x51.Do x51.N l a (rdE x51.Do x51.N l a e)) = (takeA a x51.N (takeE l.length a e x51.N)) := by rw [q1]; simp [rdA, h114, h130]
              have q3 : (rdV x51.Do x51.N l a (rdE x51.Do x51.N l a e)) = 0 := by rw [q1]; simp [rdV, h114, h130]
              have q4 : (rdL x51.Do x51.N l a (rdE x51.Do x51.N l a e)) = (takeL l a x51.N (takeE l.length a e x51.N)) := by rw [q1]; simp [rdL, h114, h130]
              rw [q2, q1] at hg112
              rw [q3, q4] at hg73
              rw [q4] at hc67
              have hll156 : (l).length = l.length := (by first | rfl | omega | (simp; omega))
              refine st (callR (some 72) 41 #[.pointer (some (⟨g9, 0, none⟩)), .int .i64 x51.N] Try.call41 (rbytes_c w112 g9 A9 l.length c9 hc66 hll156 (by omega) a e hg70 (by omega) (by omega) x51.N (by omega) (by omega)) (by kernel_rfl) ?_)
              rintro _ w156 ⟨A156, c156, rfl, hn156, hx156, hg156⟩
              have hz156 := hx156.size
              have hc156 := own_cap hn156
              replace hc65 := hc65.kp hx156 (fun k (hk : k = g9) => by omega)
              replace hc66 := hc66.kp hx156 (fun k (hk : k = g9) => by omega)
              replace hc67 := hc67.kp hx156 (fun k (hk : k = g9) => by omega)
              replace hd68 : Sls.Ok _ _ _ s := Dat.kp (a := s) hd68 hx156 (fun k (hk : k = g9) => by omega)
              replace hd69 : TAct.Ok _ _ _ x51 := Dat.kp (a := x51) hd69 hx156 (fun k (hk : k = g9) => by omega)
              replace hg112 := hx156.blk hg112 (fun e => by have e : g12 = g9 := e; omega)
              replace hg73 := hx156.blk hg73 (fun e => by have e : g61 = g9 := e; omega)
              replace hF := hF.step hx156 (fun k hk hlt => by have hk : k = g9 := hk; omega)
              have hat := takeA_at (len := l.length) (e := e) (n := x51.N) ha
              refine seg 6 [.op [1, 1, 1, 1, 1, 1, 0, 1, 0, 0, 1, 0, 0, 1, 1, 1, 1, 0] 1, .co [1, 1, 1, 1, 1, 1, 0, 1, 0, 0, 1, 0, 0, 1, 1, 1, 1, 1], .bl 3, .co [1, 1, 1, 1, 1, 1, 0, 1, 0, 0, 1, 1], .le 0, .bl 2, .co [1, 1, 1, 1, 1, 1, 1]] [(0, .slice A l.length cap), (1, .slice s.A s.l.length s.c), (6, .pointer (some (⟨g9, 0, none⟩))), (7, .pointer (some (⟨g12, 0, none⟩))), (9, .int .i64 (i : Int)), (11, .pointer (some (⟨g61, 0, none⟩))), (12, .int .u64 0), (13, .slice A156 ((takeL l a x51.N (takeE l.length a e x51.N)).length) c156), (92, .pointer (some (⟨g9, 0, none⟩)))] (by kernel_rfl) ?_
              have hlt158 := own_lt hn156
              refine st (callR (some 93) 42 #[.pointer (some (⟨g9, 0, none⟩))] Try.call42 (rerr_c w156 g9 A9 l.length c9 (takeA a x51.N (takeE l.length a e x51.N)) (takeE l.length a e x51.N) hg156 (by omega) (by omega)) (by kernel_rfl) ?_)
              rintro _ w157 ⟨rfl, hx157⟩
              have hz157 := hx157.size
              replace hc65 := hc65.ex hx157
              replace hc66 := hc66.ex hx157
              replace hc67 := hc67.ex hx157
              replace hn156 := own_ex hn156 hx157
              replace hd68 : Sls.Ok _ _ _ s := Dat.kp (a := s) hd68 hx157 (fun _ e => e.elim)
              replace hd69 : TAct.Ok _ _ _ x51 := Dat.kp (a := x51) hd69 hx157 (fun _ e => e.elim)
              replace hg156 := hx157.blk hg156 (fun e => e)
              replace hg112 := hx157.blk hg112 (fun e => e)
              replace hg73 := hx157.blk hg73 (fun e => e)
              replace hF := hF.ex hx157
              refine seg 8 [.co [1, 1, 1, 1, 1, 1, 0, 1, 0, 0, 1, 0, 0, 1, 1, 1, 1, 1, 0, 0], .co [1, 1, 1, 1, 1, 1, 0, 1, 0, 0, 1, 0, 0, 1, 1, 1, 1, 1, 0, 1], .co [1, 1, 1, 1, 1, 1, 0, 1, 0, 0, 1, 0, 0, 1, 1, 1, 1, 1, 1], .bl 3, .co [1, 1, 1, 1, 1, 1, 0, 1, 0, 0, 1, 1], .le 0, .bl 2, .co [1, 1, 1, 1, 1, 1, 1]] [(0, .slice A l.length cap), (1, .slice s.A s.l.length s.c), (6, .pointer (some (⟨g9, 0, none⟩))), (7, .pointer (some (⟨g12, 0, none⟩))), (9, .int .i64 (i : Int)), (11, .pointer (some (⟨g61, 0, none⟩))), (12, .int .u64 0), (13, .slice A156 ((takeL l a x51.N (takeE l.length a e x51.N)).length) c156), (14, .int .i64 (takeA a x51.N (takeE l.length a e x51.N))), (15, .int .i64 (takeE l.length a e x51.N))] (by kernel_rfl) ?_
              refine drawT (fun _ => False) (by kernel_rfl) (by kernel_rfl) ?_
              intro w159 hx159 hz159
              have hc65_159 := hc65
              have hc66_159 := hc66
              have hc67_159 := hc67
              have hn156_159 := hn156
              have hg156_159 := hg156
              have hg112_159 := hg112
              have hg73_159 := hg73
              have hd68_159 := hd68
              have hd69_159 := hd69
              replace hc65_159 := hc65_159.ex hx159
              replace hc66_159 := hc66_159.ex hx159
              replace hc67_159 := hc67_159.ex hx159
              replace hn156_159 := own_ex hn156_159 hx159
              replace hd68_159 : Sls.Ok _ _ _ s := Dat.kp (a := s) hd68_159 hx159 (fun _ e => e.elim)
              replace hd69_159 : TAct.Ok _ _ _ x51 := Dat.kp (a := x51) hd69_159 hx159 (fun _ e => e.elim)
              replace hg156_159 := hx159.blk hg156_159 (fun e => e)
              replace hg112_159 := hx159.blk hg112_159 (fun e => e)
              replace hg73_159 := hx159.blk hg73_159 (fun e => e)
              replace hF := hF.ex hx159
              have hS159 := Kp.refl (fun _ => False) w159
              refine segD [0, 1] [0, 1] [(0, .slice A l.length cap), (1, .slice s.A s.l.length s.c), (6, .pointer (some (⟨g9, 0, none⟩))), (7, .pointer (some (⟨g12, 0, none⟩))), (9, .int .i64 (i : Int)), (11, .pointer (some (⟨g61, 0, none⟩))), (13, .slice A156 ((takeL l a x51.N (takeE l.length a e x51.N)).length) c156), (14, .int .i64 (takeA a x51.N (takeE l.length a e x51.N))), (15, .int .i64 (takeE l.length a e x51.N)), (96, .int .u64 0), (97, .pointer (some (⟨g61, 0, none⟩)))] (by kernel_rfl) ?_
              refine stD (i := 2) (by kernel_rfl) hS159 (ldR (some 98) 24 (⟨g61, 0, none⟩) (.int .u64 0) (by kernel_rfl) (by kernel_rfl) (blk_cell hg73_159 rfl) ?_)
              refine segD [3, 4, 5, 7] [0, 1, 2, 3, 4, 5, 7] [(0, .slice A l.length cap), (1, .slice s.A s.l.length s.c), (6, .pointer (some (⟨g9, 0, none⟩))), (7, .pointer (some (⟨g12, 0, none⟩))), (9, .int .i64 (i : Int)), (13, .slice A156 ((takeL l a x51.N (takeE l.length a e x51.N)).length) c156), (14, .int .i64 (takeA a x51.N (takeE l.length a e x51.N))), (15, .int .i64 (takeE l.length a e x51.N)), (100, .bool false), (101, .slice A156 ((takeL l a x51.N (takeE l.length a e x51.N)).length) c156), (103, .pointer (some (⟨g61, 1, none⟩)))] (by kernel_rfl) ?_
              refine takeD (i := 6) (d := (some 102)) (s := vS (convert 22 9 (.slice A156 ((takeL l a x51.N (takeE l.length a e x51.N)).length) c156))) (v := .string (⟨(takeL l a x51.N (takeE l.length a e x51.N)).toArray⟩)) (by kernel_rfl) (by kernel_rfl) (fun w' hw' => b2s_run _ _ 5 _ _ _ _ Try.underlying22 Try.underlying5 Try.underlying9 (Cs.kp (Cs.of_own hn156_159) hw' (fun _ e => e.elim)) (by first | rfl | omega | (simp; done) | (simp; omega))) ?_
              refine stD (i := 8) (by kernel_rfl) hS159 (ldR (some 104) 22 (⟨g61, 1, none⟩) (.slice A59 ((takeL l a x51.N (takeE l.length a e x51.N)).length) c59) (by kernel_rfl) (by kernel_rfl) (blk_cell hg73_159 rfl) ?_)
              refine stD (i := 9) (by kernel_rfl) hS159 (b2sR (some 105) 22 9 5 A59 ((takeL l a x51.N (takeE l.length a e x51.N)).length) c59 (takeL l a x51.N (takeE l.length a e x51.N)) Try.underlying22 Try.underlying5 Try.underlying9 (by kernel_rfl) hc67_159 (by first | rfl | omega | (simp; done) | (simp; omega)) ?_)
              refine segD [10, 11, 12] [0, 1, 2, 3, 4, 5, 7, 6, 8, 9, 10, 11, 12] [(0, .slice A l.length cap), (1, .slice s.A s.l.length s.c), (6, .pointer (some (⟨g9, 0, none⟩))), (7, .pointer (some (⟨g12, 0, none⟩))), (9, .int .i64 (i : Int)), (13, .slice A156 ((takeL l a x51.N (takeE l.length a e x51.N)).length) c156), (14, .int .i64 (takeA a x51.N (takeE l.length a e x51.N))), (15, .int .i64 (takeE l.length a e x51.N)), (108, .bool (!(ByteArray.toList (⟨(takeL l a x51.N (takeE l.length a e x51.N)).toArray⟩) == ByteArray.toList (⟨(takeL l a x51.N (takeE l.length a e x51.N)).toArray⟩))))] (by kernel_rfl) ?_
              rw [show (ByteArray.toList (⟨(takeL l a x51.N (takeE l.length a e x51.N)).toArray⟩) == ByteArray.toList (⟨(takeL l a x51.N (takeE l.length a e x51.N)).toArray⟩)) = true from streq_t rfl]
              refine segD [13, 14] [0, 1, 2, 3, 4, 5, 7, 6, 8, 9, 10, 11, 12, 13, 14] [(0, .slice A l.length cap), (1, .slice s.A s.l.length s.c), (6, .pointer (some (⟨g9, 0, none⟩))), (7, .pointer (some (⟨g12, 0, none⟩))), (9, .int .i64 (i : Int)), (13, .slice A156 ((takeL l a x51.N (takeE l.length a e x51.N)).length) c156), (15, .int .i64 (takeE l.length a e x51.N)), (108, .bool false), (109, .int .i64 (takeA a x51.N (takeE l.length a e x51.N))), (110, .pointer (some (⟨g12, 1, none⟩)))] (by kernel_rfl) ?_
              refine stD (i := 15) (by kernel_rfl) hS159 (ldR (some 111) 3 (⟨g12, 1, none⟩) (.int .i64 (takeA a x51.N (takeE l.length a e x51.N))) (by kernel_rfl) (by kernel_rfl) (blk_cell hg112_159 rfl) ?_)
              refine segD [16, 17, 18] [0, 1, 2, 3, 4, 5, 7, 6, 8, 9, 10, 11, 12, 13, 14, 15, 16, 17, 18] [(0, .slice A l.length cap), (1, .slice s.A s.l.length s.c), (6, .pointer (some (⟨g9, 0, none⟩))), (7, .pointer (some (⟨g12, 0, none⟩))), (9, .int .i64 (i : Int)), (13, .slice A156 ((takeL l a x51.N (takeE l.length a e x51.N)).length) c156), (15, .int .i64 (takeE l.length a e x51.N)), (114, .bool ((takeA a x51.N (takeE l.length a e x51.N)) != (takeA a x51.N (takeE l.length a e x51.N))))] (by kernel_rfl) ?_
              rw [show ((takeA a x51.N (takeE l.length a e x51.N)) != (takeA a x51.N (takeE l.length a e x51.N))) = false from by simp]
              refine segD [19, 21] [0, 1, 2, 3, 4, 5, 7, 6, 8, 9, 10, 11, 12, 13, 14, 15, 16, 17, 18, 19, 21] [(0, .slice A l.length cap), (1, .slice s.A s.l.length s.c), (6, .pointer (some (⟨g9, 0, none⟩))), (7, .pointer (some (⟨g12, 0, none⟩))), (9, .int .i64 (i : Int)), (13, .slice A156 ((takeL l a x51.N (takeE l.length a e x51.N)).length) c156), (114, .bool false), (115, .int .i64 (takeE l.length a e x51.N)), (117, .pointer (some (⟨g12, 2, none⟩)))] (by kernel_rfl) ?_
              refine takeD (i := 22) (d := (some 118)) (s := vS (Instr.loadAt 3 (.pointer (some (⟨g12, 2, none⟩))))) (v := .int .i64 (takeE l.length a e x51.N)) (by kernel_rfl) (by kernel_rfl) (fun w' hw' => ld_run _ _ _ (by kernel_rfl) (hw'.cell (blk_cell hg112_159 rfl) (fun e => e))) ?_
              have hlt160 := own_lt hn156_159
              refine stD (i := 20) (by kernel_rfl) hS159 (callR (some 116) 18 #[.int .i64 (takeE l.length a e x51.N)] Try.call18 (num_c w159 (takeE l.length a e x51.N)) (by kernel_rfl) ?_)
              rintro _ _ ⟨rfl, rfl⟩
              refine segD [23, 24, 25] [0, 1, 2, 3, 4, 5, 7, 6, 8, 9, 10, 11, 12, 13, 14, 15, 16, 17, 18, 19, 21, 22, 20, 23, 24, 25] [(0, .slice A l.length cap), (1, .slice s.A s.l.length s.c), (6, .pointer (some (⟨g9, 0, none⟩))), (7, .pointer (some (⟨g12, 0, none⟩))), (9, .int .i64 (i : Int)), (13, .slice A156 ((takeL l a x51.N (takeE l.length a e x51.N)).length) c156), (121, .bool ((takeE l.length a e x51.N) != (takeE l.length a e x51.N)))] (by kernel_rfl) ?_
              rw [show ((takeE l.length a e x51.N) != (takeE l.length a e x51.N)) = false from by simp]
              refine segD [26, 28, 29, 30] [0, 1, 2, 3, 4, 5, 7, 6, 8, 9, 10, 11, 12, 13, 14, 15, 16, 17, 18, 19, 21, 22, 20, 23, 24, 25, 26, 28, 29, 30] [(0, .slice A l.length cap), (1, .slice s.A s.l.length s.c), (6, .pointer (some (⟨g9, 0, none⟩))), (7, .pointer (some (⟨g12, 0, none⟩))), (9, .int .i64 (i : Int)), (13, .slice A156 ((takeL l a x51.N (takeE l.length a e x51.N)).length) c156), (121, .bool false), (122, .pointer (some (⟨g9, 0, none⟩))), (125, .int .i64 (l.length : Int)), (126, .pointer (some (⟨g12, 1, none⟩)))] (by kernel_rfl) ?_
              refine takeD (i := 31) (d := (some 127)) (s := vS (Instr.loadAt 3 (.pointer (some (⟨g12, 1, none⟩))))) (v := .int .i64 (takeA a x51.N (takeE l.length a e x51.N))) (by kernel_rfl) (by kernel_rfl) (fun w' hw' => ld_run _ _ _ (by kernel_rfl) (hw'.cell (blk_cell hg112_159 rfl) (fun e => e))) ?_
              refine segD [32] [0, 1, 2, 3, 4, 5, 7, 6, 8, 9, 10, 11, 12, 13, 14, 15, 16, 17, 18, 19, 21, 22, 20, 23, 24, 25, 26, 28, 29, 30, 31, 32] [(0, .slice A l.length cap), (1, .slice s.A s.l.length s.c), (6, .pointer (some (⟨g9, 0, none⟩))), (7, .pointer (some (⟨g12, 0, none⟩))), (9, .int .i64 (i : Int)), (13, .slice A156 ((takeL l a x51.N (takeE l.length a e x51.N)).length) c156), (121, .bool false), (122, .pointer (some (⟨g9, 0, none⟩))), (128, .int .i64 (IntKind.i64.wrap ((l.length : Int) - (takeA a x51.N (takeE l.length a e x51.N)))))] (by kernel_rfl) ?_
              rw [show IntKind.i64.wrap ((l.length : Int) - (takeA a x51.N (takeE l.length a e x51.N))) = ((l.length : Int) - (takeA a x51.N (takeE l.length a e x51.N))) from w64 (by omega)]
              have hlt162 := own_lt hn156_159
              refine stD (i := 27) (by kernel_rfl) hS159 (callR (some 123) 43 #[.pointer (some (⟨g9, 0, none⟩))] Try.call43 (rleft_c w159 g9 A9 l.length c9 (takeA a x51.N (takeE l.length a e x51.N)) (takeE l.length a e x51.N) hg156_159 (by omega) (by omega)) (by kernel_rfl) ?_)
              rintro _ w161 ⟨rfl, hx161⟩
              have hz161 := hx161.size
              have hc65_161 := hc65_159
              have hc66_161 := hc66_159
              have hn156_161 := hn156_159
              have hg156_161 := hg156_159
              have hg112_161 := hg112_159
              have hd68_161 := hd68_159
              have hd69_161 := hd69_159
              have hS159_161 := hS159
              replace hc65_161 := hc65_161.ex hx161
              replace hc66_161 := hc66_161.ex hx161
              replace hn156_161 := own_ex hn156_161 hx161
              replace hd68_161 : Sls.Ok _ _ _ s := Dat.kp (a := s) hd68_161 hx161 (fun _ e => e.elim)
              replace hd69_161 : TAct.Ok _ _ _ x51 := Dat.kp (a := x51) hd69_161 hx161 (fun _ e => e.elim)
              replace hg156_161 := hx161.blk hg156_161 (fun e => e)
              replace hg112_161 := hx161.blk hg112_161 (fun e => e)
              replace hS159_161 := hS159_161.ex hx161
              replace hF := hF.ex hx161
              refine segD [33, 34] [0, 1, 2, 3, 4, 5, 7, 6, 8, 9, 10, 11, 12, 13, 14, 15, 16, 17, 18, 19, 21, 22, 20, 23, 24, 25, 26, 28, 29, 30, 31, 32, 27, 33, 34] [(0, .slice A l.length cap), (1, .slice s.A s.l.length s.c), (6, .pointer (some (⟨g9, 0, none⟩))), (7, .pointer (some (⟨g12, 0, none⟩))), (9, .int .i64 (i : Int)), (13, .slice A156 ((takeL l a x51.N (takeE l.length a e x51.N)).length) c156), (130, .bool (((l.length : Int) - (takeA a x51.N (takeE l.length a e x51.N))) != ((l.length : Int) - (takeA a x51.N (takeE l.length a e x51.N)))))] (by kernel_rfl) ?_
              refine endD (by kernel_rfl) hS159_161 ?_
              rw [show (((l.length : Int) - (takeA a x51.N (takeE l.length a e x51.N))) != ((l.length : Int) - (takeA a x51.N (takeE l.length a e x51.N)))) = false from by simp]
              refine seg 7 [.co [1, 1, 1, 1, 1, 1, 0, 1, 0, 0, 1, 0, 0, 1, 1, 1, 1, 1, 1, 1, 0], .bl 5, .bl 3, .co [1, 1, 1, 1, 1, 1, 0, 1, 0, 0, 1, 1], .le 0, .bl 2, .co [1, 1, 1, 1, 1, 1, 1]] [(0, .slice A l.length cap), (1, .slice s.A s.l.length s.c), (6, .pointer (some (⟨g9, 0, none⟩))), (7, .pointer (some (⟨g12, 0, none⟩))), (9, .int .i64 (i : Int)), (13, .slice A156 ((takeL l a x51.N (takeE l.length a e x51.N)).length) c156), (16, .int .i64 0)] (by kernel_rfl) ?_
              refine loopR 1 (fun (x : Nat × List UInt8) => [(0, .slice A l.length cap), (1, .slice s.A s.l.length s.c), (6, .pointer (some (⟨g9, 0, none⟩))), (7, .pointer (some (⟨g12, 0, none⟩))), (9, .int .i64 (i : Int)), (13, .slice A156 ((takeL l a x51.N (takeE l.length a e x51.N)).length) c156), (16, .int .i64 (x.1 : Int))]) (fun (x : Nat × List UInt8) (wl163 : World) => (x.1 ≤ (takeL l a x51.N (takeE l.length a e x51.N)).length) ∧ (x.2.length = (takeL l a x51.N (takeE l.length a e x51.N)).length) ∧ Cs 0 w.heap.size wl163 A (bs l) ∧ Cs w8.heap.size g9 wl163 A9 (bs l) ∧ Sls.Ok 0 w.heap.size wl163 s ∧ TAct.Ok 0 w.heap.size wl163 x51 ∧ wl163.ownsRow w112.heap.size 5 1 (.slice A156 ((takeL l a x51.N (takeE l.length a e x51.N)).length) c156) ((takeL l a x51.N (takeE l.length a e x51.N)).length) (bs x.2) ∧ wl163.heap[g9]? = some (.cells #[.slice A9 l.length c9, .int .i64 (takeA a x51.N (takeE l.length a e x51.N)), .int .i64 (takeE l.length a e x51.N)] 98 (0, 0)) ∧ wl163.heap[g12]? = some (.cells #[.slice A l.length cap, .int .i64 (takeA a x51.N (takeE l.length a e x51.N)), .int .i64 (takeE l.length a e x51.N)] 66 (0, 0)) ∧ Ex w wl163) (fun (x : Nat × List UInt8) => (takeL l a x51.N (takeE l.length a e x51.N)).length - x.1) (0, (takeL l a x51.N (takeE l.length a e x51.N))) (by kernel_rfl) (by kernel_rfl) (by kernel_rfl) ?_ ?_
              · exact ⟨Nat.zero_le _, rfl, hc65_161, hc66_161, hd68_161, hd69_161, hn156_161, hg156_161, hg112_161, hF⟩
              rintro ⟨k, m⟩ wl163 ⟨hk, hm, hc164, hc165, hd166, hd167, hn168, hg169, hg170, hF⟩
              try dsimp only at hk
              try dsimp only at hm
              try dsimp only at hc164
              try dsimp only at hc165
              try dsimp only at hd166
              try dsimp only at hd167
              try dsimp only at hn168
              try dsimp only at hg169
              try dsimp only at hg170
              try dsimp only at hF
              have hzwl163 := hF.size
              have hbl171 := blk_lt hg169
              have hbl172 := blk_lt hg170
              refine seg 8 [.co [1, 1, 1, 1, 1, 1, 0, 1, 0, 0, 1, 0, 0, 1, 1, 1, 1, 1, 1, 1, 0, 0, 0, 1], .co [1, 1, 1, 1, 1, 1, 0, 1, 0, 0, 1, 0, 0, 1, 1, 1, 1, 1, 1, 1, 0, 0, 1], .le 1, .bl 5, .bl 3, .co [1, 1, 1, 1, 1, 1, 0, 1, 0, 0, 1, 1], .le 0, .bl 2, .co [1, 1, 1, 1, 1, 1, 1]] [(0, .slice A l.length cap), (1, .slice s.A s.l.length s.c), (6, .pointer (some (⟨g9, 0, none⟩))), (7, .pointer (some (⟨g12, 0, none⟩))), (9, .int .i64 (i : Int)), (13, .slice A156 ((takeL l a x51.N (takeE l.length a e x51.N)).length) c156), (16, .int .i64 (k : Int)), (134, .bool (decide ((k : Int) < ((takeL l a x51.N (takeE l.length a e x51.N)).length : Int))))] (by kernel_rfl) ?_
              rcases bsplit (decide ((k : Int) < ((takeL l a x51.N (takeE l.length a e x51.N)).length : Int))) with hb173 | hb173
              · rw [hb173]
                have h173 := of_decide_eq_true hb173
                refine seg 7 [.op [1, 1, 1, 1, 1, 1, 0, 1, 0, 0, 1, 0, 0, 1, 1, 1, 1, 1, 1, 1, 0, 0, 1, 0, 0] 2, .bl 6, .co [1, 1, 1, 1, 1, 1, 0, 1, 0, 0, 1, 0, 0, 1, 1, 1, 1, 1, 1, 1, 0, 0, 1, 1], .le 1, .bl 5, .bl 3, .co [1, 1, 1, 1, 1, 1, 0, 1, 0, 0, 1, 1], .le 0, .bl 2, .co [1, 1, 1, 1, 1, 1, 1]] [(0, .slice A l.length cap), (1, .slice s.A s.l.length s.c), (6, .pointer (some (⟨g9, 0, none⟩))), (7, .pointer (some (⟨g12, 0, none⟩))), (9, .int .i64 (i : Int)), (13, .slice A156 ((takeL l a x51.N (takeE l.length a e x51.N)).length) c156), (16, .int .i64 (k : Int)), (137, .slice A156 ((takeL l a x51.N (takeE l.length a e x51.N)).length) c156), (138, .int .i64 (k : Int))] (by kernel_rfl) ?_
                have u175 := UInt8.toNat_lt (m.getD k 0)
                obtain ⟨ad174, ea174, l1174, l2174, ca174⟩ := (Cs.of_own hn168).at2 (bs_get m k (by omega))
                refine st (idxR (some 139) 22 5 1 A156 ad174 ((takeL l a x51.N (takeE l.length a e x51.N)).length) c156 .i64 (k : Int) k ea174 (by kernel_rfl) (by kernel_rfl) (by omega) (by omega) (by omega) ?_)
                refine st (ldR (some 140) 5 (ad174.add k) (.int .u8 ((m.getD k 0).toNat : Int)) (by kernel_rfl) (by kernel_rfl) ca174 ?_)
                refine seg 1 [.op [1, 1, 1, 1, 1, 1, 0, 1, 0, 0, 1, 0, 0, 1, 1, 1, 1, 1, 1, 1, 0, 0, 1, 0, 0] 5, .bl 6, .co [1, 1, 1, 1, 1, 1, 0, 1, 0, 0, 1, 0, 0, 1, 1, 1, 1, 1, 1, 1, 0, 0, 1, 1], .le 1, .bl 5, .bl 3, .co [1, 1, 1, 1, 1, 1, 0, 1, 0, 0, 1, 1], .le 0, .bl 2, .co [1, 1, 1, 1, 1, 1, 1]] [(0, .slice A l.length cap), (1, .slice s.A s.l.length s.c), (6, .pointer (some (⟨g9, 0, none⟩))), (7, .pointer (some (⟨g12, 0, none⟩))), (9, .int .i64 (i : Int)), (13, .slice A156 ((takeL l a x51.N (takeE l.length a e x51.N)).length) c156), (16, .int .i64 (k : Int)), (137, .slice A156 ((takeL l a x51.N (takeE l.length a e x51.N)).length) c156), (138, .int .i64 (k : Int)), (141, .int .u8 (IntKind.u8.wrap (((m.getD k 0).toNat : Int) + 1)))] (by kernel_rfl) ?_
                rw [show IntKind.u8.wrap (((m.getD k 0).toNat : Int) + 1) = ((m.getD k 0 + 1).toNat : Int) from wrap_succ _]
                have u177 := UInt8.toNat_lt (m.getD k 0)
                obtain ⟨ad176, ea176, l1176, l2176, ca176⟩ := (Cs.of_own hn168).at2 (bs_get m k (by omega))
                refine st (idxR (some 142) 22 5 1 A156 ad176 ((takeL l a x51.N (takeE l.length a e x51.N)).length) c156 .i64 (k : Int) k ea176 (by kernel_rfl) (by kernel_rfl) (by omega) (by omega) (by omega) ?_)
                refine st (stOwnR none 5 w112.heap.size 5 1 A156 ((takeL l a x51.N (takeE l.length a e x51.N)).length) c156 (bs m) ad176 k (.int .u8 ((m.getD k 0 + 1).toNat : Int)) (by kernel_rfl) (by kernel_rfl) rfl hn168 ea176 (by first | (rw [bs_length]; omega) | (simp; omega)) ?_)
                intro w178 hn178 hx178 hz178
                replace hc164 := hc164.kp hx178 (fun k hk => by first | exact .inr (by have := own_ge hn168 hk; omega) | exact .inl (by have := hlt158 k hk; omega) | exact .inl (by have := hlt160 k hk; omega) | exact .inl (by have := hlt162 k hk; omega))
                replace hc165 := hc165.kp hx178 (fun k hk => by first | exact .inr (by have := own_ge hn168 hk; omega) | exact .inl (by have := hlt158 k hk; omega) | exact .inl (by have := hlt160 k hk; omega) | exact .inl (by have := hlt162 k hk; omega))
                replace hd166 : Sls.Ok _ _ _ s := Dat.kp (a := s) hd166 hx178 (fun k hk => by first | exact .inr (by have := own_ge hn168 hk; omega) | exact .inl (by have := hlt158 k hk; omega) | exact .inl (by have := hlt160 k hk; omega) | exact .inl (by have := hlt162 k hk; omega))
                replace hd167 : TAct.Ok _ _ _ x51 := Dat.kp (a := x51) hd167 hx178 (fun k hk => by first | exact .inr (by have := own_ge hn168 hk; omega) | exact .inl (by have := hlt158 k hk; omega) | exact .inl (by have := hlt160 k hk; omega) | exact .inl (by have := hlt162 k hk; omega))
                replace hg169 := hx178.blk hg169 (fun e => by first | (have := own_ge hn168 e; omega) | (have := hlt158 _ e; omega) | (have := hlt160 _ e; omega) | (have := hlt162 _ e; omega))
                replace hg170 := hx178.blk hg170 (fun e => by first | (have := own_ge hn168 e; omega) | (have := hlt158 _ e; omega) | (have := hlt160 _ e; omega) | (have := hlt162 _ e; omega))
                replace hF := hF.step hx178 (fun k hk hlt => absurd (own_ge hn168 hk) (by omega))
                rw [bs_set] at hn178
                refine seg 7 [.le 1, .bl 5, .bl 3, .co [1, 1, 1, 1, 1, 1, 0, 1, 0, 0, 1, 1], .le 0, .bl 2, .co [1, 1, 1, 1, 1, 1, 1]] [(0, .slice A l.length cap), (1, .slice s.A s.l.length s.c), (6, .pointer (some (⟨g9, 0, none⟩))), (7, .pointer (some (⟨g12, 0, none⟩))), (9, .int .i64 (i : Int)), (13, .slice A156 ((takeL l a x51.N (takeE l.length a e x51.N)).length) c156), (16, .int .i64 (IntKind.i64.wrap ((k : Int) + 1)))] (by kernel_rfl) ?_
                rw [show IntKind.i64.wrap ((k : Int) + 1) = ((k : Int) + 1) from w64 (by omega)]
                refine leR (k + 1, (m.set k (m.getD k 0 + 1))) (by dsimp only; omega) ⟨by dsimp only; omega, by dsimp only; rw [List.length_set]; exact hm, hc164, hc165, hd166, hd167, hn178, hg169, hg170, hF⟩ (by kernel_rfl)
              · rw [hb173]
                have h173 := of_decide_eq_false hb173
                refine seg 8 [.le 0, .bl 2, .co [1, 1, 1, 1, 1, 1, 1]] [(0, .slice A l.length cap), (1, .slice s.A s.l.length s.c), (6, .pointer (some (⟨g9, 0, none⟩))), (7, .pointer (some (⟨g12, 0, none⟩))), (9, .int .i64 (IntKind.i64.wrap ((i : Int) + 1)))] (by kernel_rfl) ?_
                rw [show IntKind.i64.wrap ((i : Int) + 1) = ((i : Int) + 1) from w64 (by omega)]
                refine leR_up (k' := []) (by rfl) ?_
                refine leR (i + 1, (takeA a x51.N (takeE l.length a e x51.N)), (takeE l.length a e x51.N)) (by dsimp only; omega) ⟨by dsimp only; omega, hat, hc164, hc165, hd166, hg169, hg170, hF⟩ (by kernel_rfl)
        · rw [hb37]
          have h37 := of_decide_eq_false hb37
          refine seg 4 [.op [1, 1, 1, 1, 1, 1, 1, 0] 0, .co [1, 1, 1, 1, 1, 1, 1, 1]] [] (by kernel_rfl) ?_
          refine st (callR (some 143) 15 #[] Try.call15 (live_c wl29) (by kernel_rfl) ?_)
          rintro _ w179 ⟨rfl, hx179⟩
          have hz179 := hx179.size
          replace hc30 := hc30.ex hx179
          replace hc31 := hc31.ex hx179
          replace hd32 : Sls.Ok _ _ _ s := Dat.kp (a := s) hd32 hx179 (fun _ e => e.elim)
          replace hg33 := hx179.blk hg33 (fun e => e)
          replace hg34 := hx179.blk hg34 (fun e => e)
          replace hF := hF.ex hx179
          refine seg 2 [.co [1, 1, 1, 1, 1, 1, 1, 1]] [(4, .bool true)] (by kernel_rfl) ?_
          refine retR [4] [.bool true] (by kernel_rfl) (by kernel_rfl) (by kernel_rfl) ?_
          exact ⟨_, rfl, rfl, hF⟩

end Go.Proofs.Ytgkiegplmohgkaa.F
