/- Inodes in plain words: the answer of the document's decoder. -/
import Derived.Test.YtebbaokcgnjfiaaLAInode4
set_option linter.unusedVariables false
set_option linter.unusedSimpArgs false
namespace Go.Proofs.Ytebbaokcgnjfiaa.F
open Go Go.RowKit Go.Proofs.Ytebbaokcgnjfiaa.K

def zeroI : TApiInode := { Kind := 0, Mode := 0, Uid := 0, Gid := 0, Time := 0, Links := 0, Attrs := 0, Size := 0, Start := 0, Words := [], Frag := 0, Off := 0, Tail := 0, Dir := 0, Bytes := 0, Parent := 0, Target := [], Dev := 0 }
theorem mns_v4 {k : Nat} {x : Int} (hx : -1 ≤ x ∧ x ≤ 4294967294) (h : k = v4 x) : mns k = x := by
  unfold v4 at h
  unfold mns
  split at h <;> split <;> omega
theorem guess_words (b : List UInt8) (a : Nat) (v : UInt64) (hv : a + 48 + 4 * v.toNat ≤ b.length) (hb : b.length ≤ 10000) :
    ∀ k i, v.toNat - i = k → i ≤ v.toNat → loopO (fun s => ref15_guess_l1 b (a : Int) v s.1 s.2) (rdws i (b.drop (a + 48)), (i : Int)) = some (rdws v.toNat (b.drop (a + 48))) := by
  intro k
  induction k with
  | zero =>
    intro i h1 h2
    have : i = v.toNat := by omega
    subst this
    refine loop_end ?_
    show ref15_guess_l1 b (a : Int) v _ (v.toNat : Int) = _
    unfold ref15_guess_l1
    rw [wI (by omega), decide_eq_false (by omega)]
    rfl
  | succ k ih =>
    intro i h1 h2
    have := ih (i + 1) (by omega) (by omega)
    rw [show ((i + 1 : Nat) : Int) = (i : Int) + 1 by omega] at this
    refine (loop_next ?_).trans this
    show ref15_guess_l1 b (a : Int) v _ (i : Int) = _
    unfold ref15_guess_l1
    obtain ⟨u, h3, h4⟩ := Load_ok (b := b) (p := (a : Int) + 48 + 4 * i) (w := 4) (by omega) (by omega) (by decide)
    rw [wI (by omega), decide_eq_true (by omega), wI (x := (a : Int) + 48) (by omega), wI (x := 4 * (i : Int)) (by omega), wI (x := (a : Int) + 48 + 4 * i) (by omega), wI (x := (i : Int) + 1) (by omega), show ref01_Load b ((a : Int) + 48 + 4 * i) 4 = _ from h3]
    have h5 := rd_lt b ((a : Int) + 48 + 4 * i).toNat 4
    simp only [cond_true, Option.bind_some]
    rw [h4, wI (by omega), app_ok (by rw [rdws_len, List.length_singleton]; omega), rdws_snoc, rd_drop, show ((a : Int) + 48 + 4 * i).toNat = a + 48 + 4 * i by omega]
    rfl
set_option maxHeartbeats 2000000
/-- The guess: what it is where there are bytes enough; that it is. -/
theorem guess_all (b : List UInt8) (a : Nat) (ha : a ≤ b.length) (hb : b.length ≤ 10000) :
    ∃ m ok, ref15_guess b (a : Int) = some (m, ok) ∧ ∀ n : TApiInode, chkI n = 0 → headP n (b.drop a) → restP n (b.drop a) → a + 24 ≤ b.length → m = n ∧ ok = true := by
  unfold ref15_guess
  rw [wI (x := (a : Int) + 24) (by omega)]
  by_cases h24 : a + 24 ≤ b.length
  · rw [decide_eq_false (by omega), cond_false]
    have hlt : a < b.length := by omega
    rw [idx_ok (List.getElem?_eq_getElem hlt)]
    obtain ⟨v1, l1, e1⟩ := Load_ok (b := b) (p := (a : Int) + 2) (w := 2) (by omega) (by omega) (by decide)
    obtain ⟨v2, l2, e2⟩ := Load_ok (b := b) (p := (a : Int) + 4) (w := 2) (by omega) (by omega) (by decide)
    obtain ⟨v3, l3, e3⟩ := Load_ok (b := b) (p := (a : Int) + 6) (w := 2) (by omega) (by omega) (by decide)
    obtain ⟨v4', l4, e4⟩ := Load_ok (b := b) (p := (a : Int) + 8) (w := 4) (by omega) (by omega) (by decide)
    obtain ⟨v5, l5, e5⟩ := Load_ok (b := b) (p := (a : Int) + 12) (w := 4) (by omega) (by omega) (by decide)
    have m6 := minus_ok (b := b) (p := (a : Int) + 16) (by omega) (by omega)
    rw [wI (x := (a : Int) + 2) (by omega), wI (x := (a : Int) + 4) (by omega), wI (x := (a : Int) + 6) (by omega), wI (x := (a : Int) + 8) (by omega), wI (x := (a : Int) + 12) (by omega), wI (x := (a : Int) + 16) (by omega)]
    rw [show ref01_Load b ((a : Int) + 2) 2 = _ from l1, show ref01_Load b ((a : Int) + 4) 2 = _ from l2, show ref01_Load b ((a : Int) + 6) 2 = _ from l3, show ref01_Load b ((a : Int) + 8) 4 = _ from l4, show ref01_Load b ((a : Int) + 12) 4 = _ from l5, m6]
    have r1 := rd_lt b ((a : Int) + 2).toNat 2
    have r2 := rd_lt b ((a : Int) + 4).toNat 2
    have r3 := rd_lt b ((a : Int) + 6).toNat 2
    have r4 := rd_lt b ((a : Int) + 8).toNat 4
    have r5 := rd_lt b ((a : Int) + 12).toNat 4
    simp only [Option.bind_some]
    rw [e1, e2, e3, e4, e5]
    rw [wI (x := ((rd b ((a : Int) + 2).toNat 2 : Nat) : Int)) (by omega), wI (x := ((rd b ((a : Int) + 4).toNat 2 : Nat) : Int)) (by omega), wI (x := ((rd b ((a : Int) + 6).toNat 2 : Nat) : Int)) (by omega), wI (x := ((rd b ((a : Int) + 8).toNat 4 : Nat) : Int)) (by omega), wI (x := ((rd b ((a : Int) + 12).toNat 4 : Nat) : Int)) (by omega)]
    simp only [show ((a : Int) + 2).toNat = a + 2 by omega, show ((a : Int) + 4).toNat = a + 4 by omega, show ((a : Int) + 6).toNat = a + 6 by omega, show ((a : Int) + 8).toNat = a + 8 by omega, show ((a : Int) + 12).toNat = a + 12 by omega, show ((a : Int) + 16).toNat = a + 16 by omega]
    have hkind : rd b a 2 = (b[a]).toNat + 256 * (b[a + 1]'(by omega)).toNat := by
      unfold rd
      rw [List.drop_eq_getElem_cons hlt, List.take_succ_cons, List.drop_eq_getElem_cons (by omega : a + 1 < b.length), List.take_succ_cons, List.take_zero]
      simp [le]
    have hfacts : ∀ n : TApiInode, chkI n = 0 → headP n (b.drop a) → ((b[a]).toNat : Int) = n.Kind ∧ (rd b (a + 2) 2 : Int) = n.Mode ∧ (rd b (a + 4) 2 : Int) = n.Uid ∧ (rd b (a + 6) 2 : Int) = n.Gid ∧ (rd b (a + 8) 4 : Int) = n.Time ∧ (rd b (a + 12) 4 : Int) = n.Links ∧ mns (rd b (a + 16) 4) = n.Attrs ∧ Good n := by
      intro n hc hp
      obtain ⟨hk, hg⟩ := good_of_chk hc
      obtain ⟨p1, p2, p3, p4, p5, p6, p7, p8⟩ := hp
      simp only [rd_drop, Nat.add_zero] at p2 p3 p4 p5 p6 p7 p8
      refine ⟨?_, p3, p4, p5, p6, p7, mns_v4 (by have := hg.1; omega) p8, hg⟩
      have := (b[a]).toNat_lt
      omega
    have hne : ∀ {k : Int}, ((b[a]).toNat : Int) ≠ k → (((b[a]).toNat : Int) == k) = false := fun h => beq_eq_false_iff_ne.2 h
    by_cases h1 : ((b[a]).toNat : Int) = 1
    · rw [show (((b[a]).toNat : Int) == 1) = true from beq_iff_eq.2 h1, cond_true, wI (x := (a : Int) + 48) (by omega)]
      by_cases h48 : a + 48 ≤ b.length
      · rw [decide_eq_false (by omega), cond_false]
        obtain ⟨u1, k1, g1⟩ := Load_ok (b := b) (p := (a : Int) + 20) (w := 8) (by omega) (by omega) (by decide)
        obtain ⟨u2, k2, g2⟩ := Load_ok (b := b) (p := (a : Int) + 28) (w := 4) (by omega) (by omega) (by decide)
        have k3 := minus_ok (b := b) (p := (a : Int) + 32) (by omega) (by omega)
        obtain ⟨u4, k4, g4⟩ := Load_ok (b := b) (p := (a : Int) + 36) (w := 4) (by omega) (by omega) (by decide)
        obtain ⟨u5, k5, g5⟩ := Load_ok (b := b) (p := (a : Int) + 40) (w := 4) (by omega) (by omega) (by decide)
        obtain ⟨u6, k6, g6⟩ := Load_ok (b := b) (p := (a : Int) + 44) (w := 4) (by omega) (by omega) (by decide)
        rw [wI (x := (a : Int) + 20) (by omega), wI (x := (a : Int) + 28) (by omega), wI (x := (a : Int) + 32) (by omega), wI (x := (a : Int) + 36) (by omega), wI (x := (a : Int) + 40) (by omega), wI (x := (a : Int) + 44) (by omega)]
        rw [show ref01_Load b ((a : Int) + 20) 8 = _ from k1, show ref01_Load b ((a : Int) + 28) 4 = _ from k2, k3, show ref01_Load b ((a : Int) + 36) 4 = _ from k4, show ref01_Load b ((a : Int) + 40) 4 = _ from k5, show ref01_Load b ((a : Int) + 44) 4 = _ from k6]
        simp only [Option.bind_some]
        have q2 := rd_lt b (a + 28) 4
        have q4 := rd_lt b (a + 36) 4
        have q5 := rd_lt b (a + 40) 4
        have q6 := rd_lt b (a + 44) 4
        simp only [show ((a : Int) + 20).toNat = a + 20 by omega, show ((a : Int) + 28).toNat = a + 28 by omega, show ((a : Int) + 32).toNat = a + 32 by omega, show ((a : Int) + 36).toNat = a + 36 by omega, show ((a : Int) + 40).toNat = a + 40 by omega, show ((a : Int) + 44).toNat = a + 44 by omega] at g1 g2 g4 g5 g6 ⊢
        have w6 : IntKind.i64.wrap (u6.toNat : Int) = (u6.toNat : Int) := wI (by omega)
        rw [wI (x := (u2.toNat : Int)) (by omega), wI (x := (u4.toNat : Int)) (by omega), wI (x := (u5.toNat : Int)) (by omega), w6, wI (x := (b.length : Int) - (a : Int)) (by omega), wI (x := (b.length : Int) - (a : Int) - 48) (by omega)]
        have htd : Int.tdiv ((b.length : Int) - (a : Int) - 48) 4 = ((b.length : Int) - (a : Int) - 48) / 4 := Int.tdiv_eq_ediv_of_nonneg (by omega)
        rw [htd, wI (by omega)]
        by_cases hu : a + 48 + 4 * u6.toNat ≤ b.length
        · rw [decide_eq_false (by omega), cond_false]
          have := guess_words b a u6 hu hb u6.toNat 0 (by omega) (by omega)
          rw [show ((rdws 0 (b.drop (a + 48)), ((0 : Nat) : Int)) : List Int × Int) = ([], 0) from rfl] at this
          rw [this]
          simp only [Option.bind_some]
          refine ⟨_, _, rfl, fun n hc hp hr _ => ⟨?_, rfl⟩⟩
          obtain ⟨c1, c2, c3, c4, c5, c6, c7, hg⟩ := hfacts n hc hp
          obtain ⟨⟨hm, ht, hu', hgi, hl, ha'⟩, hF, _, _, hD, _, hT, _, hV⟩ := hg
          obtain ⟨f1, f2, f3, f4, f5, f6, f7, f8, f9⟩ := hF (by omega)
          unfold restP at hr
          rw [if_pos (by omega)] at hr
          simp only [rd_drop, List.drop_drop] at hr
          obtain ⟨_, x1, x2, x3, x4, x5, x6, _, x7⟩ := hr
          rw [← x6] at x7
          have d := hD (by omega)
          have t := hT (by omega)
          have v := hV (by omega)
          obtain ⟨K, Mo, U, G, T, L, At, S, St, W, F, O, Ta, Di, By, Pa, Tg, De⟩ := n
          simp only at *
          rw [g2, g4, g5, g6, g1, wI (by omega)]
          rw [mns_v4 (by omega) x3]
          simp [*]
          exact ⟨by omega, by rw [← x6]; exact x7⟩
        · rw [decide_eq_true (by omega), cond_true]
          refine ⟨_, _, rfl, fun n hc hp hr _ => ?_⟩
          exfalso
          obtain ⟨c1, _⟩ := hfacts n hc hp
          unfold restP at hr
          rw [if_pos (by omega)] at hr
          simp only [rd_drop, List.length_drop] at hr
          omega
      · rw [decide_eq_true (by omega), cond_true]
        refine ⟨_, _, rfl, fun n hc hp hr _ => ?_⟩
        exfalso
        obtain ⟨c1, _⟩ := hfacts n hc hp
        unfold restP at hr
        rw [if_pos (by omega), List.length_drop] at hr
        omega
    · rw [hne h1, cond_false]
      by_cases h2 : ((b[a]).toNat : Int) = 2
      · rw [show (((b[a]).toNat : Int) == 2) = true from beq_iff_eq.2 h2, cond_true, wI (x := (a : Int) + 32) (by omega)]
        by_cases h32 : a + 32 ≤ b.length
        · rw [decide_eq_false (by omega), cond_false]
          obtain ⟨u1, k1, g1⟩ := Load_ok (b := b) (p := (a : Int) + 20) (w := 4) (by omega) (by omega) (by decide)
          obtain ⟨u2, k2, g2⟩ := Load_ok (b := b) (p := (a : Int) + 24) (w := 4) (by omega) (by omega) (by decide)
          obtain ⟨u3, k3, g3⟩ := Load_ok (b := b) (p := (a : Int) + 28) (w := 4) (by omega) (by omega) (by decide)
          rw [wI (x := (a : Int) + 20) (by omega), wI (x := (a : Int) + 28) (by omega)]
          rw [show ref01_Load b ((a : Int) + 20) 4 = _ from k1, show ref01_Load b ((a : Int) + 24) 4 = _ from k2, show ref01_Load b ((a : Int) + 28) 4 = _ from k3]
          simp only [Option.bind_some]
          have q1 := rd_lt b (a + 20) 4
          have q2 := rd_lt b (a + 24) 4
          have q3 := rd_lt b (a + 28) 4
          simp only [show ((a : Int) + 20).toNat = a + 20 by omega, show ((a : Int) + 24).toNat = a + 24 by omega, show ((a : Int) + 28).toNat = a + 28 by omega] at g1 g2 g3 ⊢
          refine ⟨_, _, rfl, fun n hc hp hr _ => ⟨?_, rfl⟩⟩
          obtain ⟨c1, c2, c3, c4, c5, c6, c7, hg⟩ := hfacts n hc hp
          obtain ⟨⟨hm, ht, hu', hgi, hl, ha'⟩, _, hF, _, _, _, hT, _, hV⟩ := hg
          unfold restP at hr
          rw [if_neg (by omega), if_pos (by omega)] at hr
          simp only [rd_drop] at hr
          obtain ⟨_, x1, x2, x3⟩ := hr
          have d := hF (by omega)
          have t := hT (by omega)
          have v := hV (by omega)
          obtain ⟨K, Mo, U, G, T, L, At, S, St, W, F, O, Ta, Di, By, Pa, Tg, De⟩ := n
          simp only at *
          rw [wI (x := (u1.toNat : Int)) (by omega), wI (x := (u2.toNat : Int)) (by omega), wI (x := (u3.toNat : Int)) (by omega), g1, g2, g3]
          simp [*]
          exact ⟨by omega, List.length_eq_zero_iff.1 d.2.2.1⟩
        · rw [decide_eq_true (by omega), cond_true]
          refine ⟨_, _, rfl, fun n hc hp hr _ => ?_⟩
          exfalso
          obtain ⟨c1, _⟩ := hfacts n hc hp
          unfold restP at hr
          rw [if_neg (by omega), if_pos (by omega), List.length_drop] at hr
          omega
      · rw [hne h2, cond_false]
        by_cases h3 : ((b[a]).toNat : Int) = 3
        · rw [show (((b[a]).toNat : Int) == 3) = true from beq_iff_eq.2 h3, cond_true]
          obtain ⟨u1, k1, g1⟩ := Load_ok (b := b) (p := (a : Int) + 20) (w := 2) (by omega) (by omega) (by decide)
          rw [wI (x := (a : Int) + 20) (by omega), wI (x := (a : Int) + 22) (by omega), show ref01_Load b ((a : Int) + 20) 2 = _ from k1]
          simp only [Option.bind_some]
          have q1 := rd_lt b (a + 20) 2
          simp only [show ((a : Int) + 20).toNat = a + 20 by omega] at g1
          rw [wI (x := (u1.toNat : Int)) (by omega), wI (x := (b.length : Int) - (a : Int)) (by omega), wI (x := (b.length : Int) - (a : Int) - 22) (by omega), wI (x := (a : Int) + 22 + (u1.toNat : Int)) (by omega)]
          by_cases hu : a + 22 + u1.toNat ≤ b.length
          · rw [decide_eq_false (by omega), cond_false, slc_ok (by omega)]
            simp only [Option.bind_some]
            refine ⟨_, _, rfl, fun n hc hp hr _ => ⟨?_, rfl⟩⟩
            obtain ⟨c1, c2, c3, c4, c5, c6, c7, hg⟩ := hfacts n hc hp
            obtain ⟨⟨hm, ht, hu', hgi, hl, ha'⟩, _, hF, _, hD, _, _, _, hV⟩ := hg
            unfold restP at hr
            rw [if_neg (by omega), if_neg (by omega), if_pos (by omega)] at hr
            simp only [rd_drop, List.drop_drop] at hr
            obtain ⟨_, x1, x2⟩ := hr
            have d := hF (by omega)
            have t := hD (by omega)
            have v := hV (by omega)
            rw [← x1, ← g1] at x2
            obtain ⟨K, Mo, U, G, T, L, At, S, St, W, F, O, Ta, Di, By, Pa, Tg, De⟩ := n
            simp only at *
            rw [List.drop_take, show ((a : Int) + 22 + (u1.toNat : Int)).toNat - ((a : Int) + 22).toNat = u1.toNat by omega, show ((a : Int) + 22).toNat = a + 22 by omega, x2]
            simp [*]
            exact ⟨by omega, List.length_eq_zero_iff.1 d.2.2.1⟩
          · rw [decide_eq_true (by omega), cond_true]
            refine ⟨_, _, rfl, fun n hc hp hr _ => ?_⟩
            exfalso
            obtain ⟨c1, _⟩ := hfacts n hc hp
            unfold restP at hr
            rw [if_neg (by omega), if_neg (by omega), if_pos (by omega)] at hr
            simp only [rd_drop, List.length_drop] at hr
            omega
        · rw [hne h3, cond_false]
          obtain ⟨u1, k1, g1⟩ := Load_ok (b := b) (p := (a : Int) + 20) (w := 4) (by omega) (by omega) (by decide)
          rw [wI (x := (a : Int) + 20) (by omega), show ref01_Load b ((a : Int) + 20) 4 = _ from k1]
          simp only [Option.bind_some]
          have q1 := rd_lt b (a + 20) 4
          simp only [show ((a : Int) + 20).toNat = a + 20 by omega] at g1
          refine ⟨_, _, rfl, fun n hc hp hr _ => ⟨?_, rfl⟩⟩
          obtain ⟨c1, c2, c3, c4, c5, c6, c7, hg⟩ := hfacts n hc hp
          obtain ⟨⟨hm, ht, hu', hgi, hl, ha'⟩, _, hF, _, hD, _, hT, _, _⟩ := hg
          unfold restP at hr
          rw [if_neg (by omega), if_neg (by omega), if_neg (by omega)] at hr
          simp only [rd_drop, List.drop_drop] at hr
          obtain ⟨_, x1⟩ := hr
          have d := hF (by omega)
          have t := hD (by omega)
          have v := hT (by omega)
          obtain ⟨K, Mo, U, G, T, L, At, S, St, W, F, O, Ta, Di, By, Pa, Tg, De⟩ := n
          simp only at *
          rw [wI (x := (u1.toNat : Int)) (by omega), g1]
          simp [*]
          exact List.length_eq_zero_iff.1 d.2.2.1
  · rw [decide_eq_true (by omega), cond_true]
    exact ⟨_, _, rfl, fun n hc hp hr h => absurd h h24⟩
end Go.Proofs.Ytebbaokcgnjfiaa.F
