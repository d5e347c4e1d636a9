/- Inodes in plain words: the document's decoder; same inodes. -/
import Derived.Test.YtebbaokcgnjfiaaLAInode5
set_option linter.unusedVariables false
set_option linter.unusedSimpArgs false
namespace Go.Proofs.Ytebbaokcgnjfiaa.F
open Go Go.RowKit Go.Proofs.Ytebbaokcgnjfiaa.K

theorem headP_app {n : TApiInode} {l x : List UInt8} (h : headP n l) : headP n (l ++ x) := by
  obtain ⟨a1, a2, a3, a4, a5, a6, a7, a8⟩ := h
  unfold headP
  rw [rd_app _ _ _ _ (by omega), rd_app _ _ _ _ (by omega), rd_app _ _ _ _ (by omega), rd_app _ _ _ _ (by omega), rd_app _ _ _ _ (by omega), rd_app _ _ _ _ (by omega), rd_app _ _ _ _ (by omega), List.length_append]
  exact ⟨by omega, a2, a3, a4, a5, a6, a7, a8⟩
theorem short_all (b : List UInt8) (a : Nat) (ha : a ≤ b.length) (hb : b.length ≤ 5000) :
    ∃ m ok, ref15_short b (a : Int) = some (m, ok) ∧ ∀ n : TApiInode, chkI n = 0 → bytesI n <+: b.drop a → ¬ a + 24 ≤ b.length → m = n ∧ ok = true := by
  unfold ref15_short
  rw [wI (by omega)]
  by_cases h23 : b.length = a + 23
  · rw [show ((b.length : Int) - (a : Int) != 23) = false from bne_eq_false_iff_eq.2 (by omega), cond_false]
    have hg : ∀ i, i < 23 → b[a + i]? = some (b.getD (a + i) 0) := fun i hi => by
      rw [List.getD_eq_getElem?_getD, List.getElem?_eq_getElem (by omega)]; rfl
    have g0 := hg 0 (by omega)
    rw [Nat.add_zero] at g0
    rw [wI (x := (a : Int) + 20) (by omega), wI (x := (a : Int) + 21) (by omega), idx_ok g0, show (a : Int) + 20 = ((a + 20 : Nat) : Int) by omega, idx_ok (hg 20 (by omega)), show (a : Int) + 21 = ((a + 21 : Nat) : Int) by omega, idx_ok (hg 21 (by omega)), slc_ok (by omega)]
    simp only [Option.bind_some]
    rw [app_ok (by rw [List.length_nil, List.length_drop, List.length_take]; omega)]
    simp only [Option.bind_some]
    rw [app_ok (by rw [List.length_append, List.length_nil, List.length_drop, List.length_take, List.length_singleton]; omega)]
    have hl : [] ++ List.drop (a : Int).toNat (b.take (b.length : Int).toNat) ++ [(0 : UInt8)] = b.drop a ++ [0] := by
      rw [Int.toNat_natCast, Int.toNat_natCast, List.take_length, List.nil_append]
    rw [hl]
    have hlen : (b.drop a ++ [(0 : UInt8)]).length = 24 := by rw [List.length_append, List.length_drop, List.length_singleton]; omega
    obtain ⟨m, ok, h1, h2⟩ := guess_all (b.drop a ++ [0]) 0 (by omega) (by omega)
    simp only [Option.bind_some]
    rw [show ref15_guess (b.drop a ++ [0]) 0 = _ from h1]
    simp only [Option.bind_some]
    have hz := fun n : TApiInode => h2 n
    have r0 : rd (b.drop a) 0 2 = (b.getD a 0).toNat + 256 * (b.getD (a + 1) 0).toNat := by
      unfold rd
      rw [List.drop_zero, List.drop_eq_getElem_cons (by omega), List.take_succ_cons, List.drop_eq_getElem_cons (by omega : a + 1 < b.length), List.take_succ_cons, List.take_zero]
      simp [le, List.getD_eq_getElem?_getD, List.getElem?_eq_getElem (show a < b.length by omega), List.getElem?_eq_getElem (show a + 1 < b.length by omega)]
    have r20 : rd (b.drop a) 20 2 = (b.getD (a + 20) 0).toNat + 256 * (b.getD (a + 21) 0).toNat := by
      rw [rd_drop]
      unfold rd
      rw [List.drop_eq_getElem_cons (by omega : a + 20 < b.length), List.take_succ_cons, List.drop_eq_getElem_cons (by omega : a + 20 + 1 < b.length), List.take_succ_cons, List.take_zero]
      simp [le, List.getD_eq_getElem?_getD, List.getElem?_eq_getElem (show a + 20 < b.length by omega), List.getElem?_eq_getElem (show a + 21 < b.length by omega)]
    have hfact : ∀ n : TApiInode, chkI n = 0 → bytesI n <+: b.drop a → (b.getD a 0).toNat = 3 ∧ (b.getD (a + 20) 0).toNat = 1 ∧ (b.getD (a + 21) 0).toNat = 0 ∧ headP n (b.drop a) ∧ restP n (b.drop a) ∧ n.Kind = 3 ∧ n.Target.length = 1 := by
      intro n hc hp
      obtain ⟨hk, hg⟩ := good_of_chk hc
      obtain ⟨p1, p2⟩ := (bytes_iff hk hg _).1 hp
      have p2' := p2
      unfold restP at p2
      rw [List.length_drop] at p2
      have hk3 : n.Kind = 3 := by
        by_cases k1 : n.Kind = 1
        · rw [if_pos k1] at p2; omega
        · by_cases k2 : n.Kind = 2
          · rw [if_neg k1, if_pos k2] at p2; omega
          · by_cases k3 : n.Kind = 3
            · exact k3
            · rw [if_neg k1, if_neg k2, if_neg k3] at p2; omega
      rw [if_neg (by omega), if_neg (by omega), if_pos hk3] at p2
      have ht := hg.2.2.2.2.2.1 hk3
      have q1 := p1.2.1
      rw [r0] at q1
      have q2 := p2.2.1
      rw [r20] at q2
      have q3 := (b.getD a 0).toNat_lt
      have q4 := (b.getD (a + 20) 0).toNat_lt
      exact ⟨by omega, by omega, by omega, p1, p2', hk3, by omega⟩
    by_cases e1 : (b.getD a 0).toNat = 3
    · rw [show (((b.getD a 0).toNat : Int) != 3) = false from bne_eq_false_iff_eq.2 (by omega), cond_false]
      by_cases e2 : (b.getD (a + 20) 0).toNat = 1
      · rw [show (((b.getD (a + 20) 0).toNat : Int) != 1) = false from bne_eq_false_iff_eq.2 (by omega), cond_false]
        by_cases e3 : (b.getD (a + 21) 0).toNat = 0
        · rw [show (((b.getD (a + 21) 0).toNat : Int) != 0) = false from bne_eq_false_iff_eq.2 (by omega), cond_false]
          refine ⟨_, _, rfl, fun n hc hp _ => h2 n hc ?_ ?_ (by omega)⟩
          · rw [List.drop_zero]
            exact headP_app (hfact n hc hp).2.2.2.1
          · rw [List.drop_zero]
            obtain ⟨_, _, _, _, f5, f6, f7⟩ := hfact n hc hp
            unfold restP at f5 ⊢
            rw [if_neg (by omega), if_neg (by omega), if_pos f6, f7] at f5 ⊢
            obtain ⟨x1, x2, x3⟩ := f5
            rw [List.length_drop] at x1
            refine ⟨by omega, ?_, ?_⟩
            · rw [rd_app _ _ _ _ (by rw [List.length_drop]; omega), x2]
            · rw [List.drop_append_of_le_length (by rw [List.length_drop]; omega), List.take_append_of_le_length (by rw [List.length_drop, List.length_drop]; omega), x3]
        · rw [show (((b.getD (a + 21) 0).toNat : Int) != 0) = true from bne_iff_ne.2 (by omega), cond_true]
          exact ⟨_, _, rfl, fun n hc hp _ => absurd (hfact n hc hp).2.2.1 e3⟩
      · rw [show (((b.getD (a + 20) 0).toNat : Int) != 1) = true from bne_iff_ne.2 (by omega), cond_true]
        exact ⟨_, _, rfl, fun n hc hp _ => absurd (hfact n hc hp).2.1 e2⟩
    · rw [show (((b.getD a 0).toNat : Int) != 3) = true from bne_iff_ne.2 (by omega), cond_true]
      exact ⟨_, _, rfl, fun n hc hp _ => absurd (hfact n hc hp).1 e1⟩
  · rw [show ((b.length : Int) - (a : Int) != 23) = true from bne_iff_ne.2 (by omega), cond_true]
    refine ⟨_, _, rfl, fun n hc hp h => ?_⟩
    exfalso
    obtain ⟨hk, hg⟩ := good_of_chk hc
    obtain ⟨p1, p2⟩ := (bytes_iff hk hg _).1 hp
    unfold restP at p2
    rw [List.length_drop] at p2
    by_cases k1 : n.Kind = 1
    · rw [if_pos k1] at p2; omega
    · by_cases k2 : n.Kind = 2
      · rw [if_neg k1, if_pos k2] at p2; omega
      · by_cases k3 : n.Kind = 3
        · rw [if_neg k1, if_neg k2, if_pos k3] at p2
          have ht := hg.2.2.2.2.2.1 k3
          omega
        · rw [if_neg k1, if_neg k2, if_neg k3] at p2; omega
/-- What a decoder answers. -/
def Dec (b : List UInt8) (a : Nat) (r : Option (TApiInode × Int × Int)) : Prop :=
  (r = some (zeroI, 0, 6) ∧ ∀ n, chkI n = 0 → ¬ bytesI n <+: b.drop a) ∨ ∃ n, r = some (n, (a : Int) + (bytesI n).length, 0) ∧ chkI n = 0 ∧ bytesI n <+: b.drop a
theorem refDecode_out (b : List UInt8) (a : Int) (h : ¬ (0 ≤ a ∧ a ≤ b.length)) : ref15_Decode b a = some (zeroI, 0, 9) := by
  unfold ref15_Decode
  by_cases h1 : a < 0
  · rw [decide_eq_true h1]; rfl
  · rw [decide_eq_false h1, cond_false, decide_eq_true (by omega)]; rfl
theorem refDecode (b : List UInt8) (a : Nat) (ha : a ≤ b.length) (hb : b.length ≤ 5000) : Dec b a (ref15_Decode b (a : Int)) := by
  obtain ⟨m, ok, h1, h2⟩ := guess_all b a ha (by omega)
  obtain ⟨m', ok', h3, h4⟩ := short_all b a ha hb
  have hboth : ∃ mm kk, (∀ n : TApiInode, chkI n = 0 → bytesI n <+: b.drop a → mm = n ∧ kk = true) ∧ ref15_Decode b (a : Int) = (cond kk
      (Option.bind (ref15_Check mm) fun check => cond (check != 0) (some (zeroI, 0, 6))
        (Option.bind (ref15_Bytes mm) fun bytes => cond (decide ((bytes.length : Int) > ((b.length : Int) - (a : Int)))) (some (zeroI, 0, 6))
          (Option.bind (slc b (a : Int) (IntKind.i64.wrap ((a : Int) + (bytes.length : Int)))) fun y_ => cond (bytes != y_) (some (zeroI, 0, 6)) (some (mm, (IntKind.i64.wrap ((a : Int) + (bytes.length : Int))), 0)))))
      (some (zeroI, 0, 6))) := by
    by_cases hok : ok = true
    · refine ⟨m, ok, ?_, ?_⟩
      · intro n hc hp
        obtain ⟨hk, hg⟩ := good_of_chk hc
        obtain ⟨p1, p2⟩ := (bytes_iff hk hg _).1 hp
        by_cases h24 : a + 24 ≤ b.length
        · exact h2 n hc p1 p2 h24
        · exfalso
          unfold ref15_guess at h1
          rw [wI (by omega), decide_eq_true (by omega), cond_true] at h1
          injection h1 with h1
          injection h1 with _ h1
          rw [← h1] at hok
          cases hok
      · unfold ref15_Decode
        rw [decide_eq_false (by omega), cond_false, decide_eq_false (by omega), cond_false, h1]
        subst hok
        rfl
    · have hok : ok = false := by cases ok with | false => rfl | true => exact absurd rfl hok
      subst hok
      refine ⟨m', ok', ?_, ?_⟩
      · intro n hc hp
        obtain ⟨hk, hg⟩ := good_of_chk hc
        obtain ⟨p1, p2⟩ := (bytes_iff hk hg _).1 hp
        by_cases h24 : a + 24 ≤ b.length
        · have := (h2 n hc p1 p2 h24).2
          cases this
        · exact h4 n hc hp h24
      · unfold ref15_Decode
        rw [decide_eq_false (by omega), cond_false, decide_eq_false (by omega), cond_false, h1]
        simp only [Option.bind_some, cond_false]
        rw [h3]
        rfl
  obtain ⟨mm, kk, h5, h6⟩ := hboth
  rw [h6]
  by_cases hkk : kk = true
  · subst hkk
    rw [cond_true, ref15_Check_eq]
    simp only [Option.bind_some]
    by_cases hc : chkI mm = 0
    · rw [show (chkI mm != 0) = false from bne_eq_false_iff_eq.2 hc, cond_false]
      obtain ⟨hk, hg⟩ := good_of_chk hc
      rw [Bytes_ok mm hk hg]
      simp only [Option.bind_some]
      by_cases hlen : ((bytesI mm).length : Int) > (b.length : Int) - (a : Int)
      · rw [decide_eq_true hlen, cond_true]
        refine .inl ⟨rfl, fun n hn hp => ?_⟩
        obtain ⟨rfl, _⟩ := h5 n hn hp
        have := hp.length_le
        rw [List.length_drop] at this
        omega
      · rw [decide_eq_false hlen, cond_false, wI (by omega), slc_ok (by omega)]
        simp only [Option.bind_some]
        rw [List.drop_take, show ((a : Int) + ((bytesI mm).length : Int)).toNat - (a : Int).toNat = (bytesI mm).length by omega, Int.toNat_natCast]
        by_cases heq : bytesI mm = (b.drop a).take (bytesI mm).length
        · rw [show (bytesI mm != (b.drop a).take (bytesI mm).length) = false from bne_eq_false_iff_eq.2 heq, cond_false]
          exact .inr ⟨mm, rfl, hc, List.prefix_iff_eq_take.2 heq⟩
        · rw [show (bytesI mm != (b.drop a).take (bytesI mm).length) = true from bne_iff_ne.2 heq, cond_true]
          refine .inl ⟨rfl, fun n hn hp => ?_⟩
          obtain ⟨rfl, _⟩ := h5 n hn hp
          exact heq (List.prefix_iff_eq_take.1 hp)
    · rw [show (chkI mm != 0) = true from bne_iff_ne.2 hc, cond_true]
      refine .inl ⟨rfl, fun n hn hp => ?_⟩
      obtain ⟨rfl, _⟩ := h5 n hn hp
      exact hc hn
  · have hkk : kk = false := by cases kk with | false => rfl | true => exact absurd rfl hkk
    subst hkk
    rw [cond_false]
    refine .inl ⟨rfl, fun n hn hp => ?_⟩
    have := (h5 n hn hp).2
    cases this
theorem Same_refl (n : TApiInode) : ref15_Same n n = some true := by
  unfold ref15_Same
  simp only [bne_self_eq_false, cond_false, lt_eq]
  rw [loop_any n.Words _ (fun _ => (none : Option Bool)) ?_ ?_]
  · have : n.Words.findSome? (fun _ => (none : Option Bool)) = none := by simp
    rw [this]
    rfl
  · intro t x hx
    have hlt := (List.getElem?_eq_some_iff.1 hx).1
    unfold ref15_Same_l1
    rw [decide_eq_true (by omega), hx]
    simp
  · unfold ref15_Same_l1
    rw [decide_eq_false (by omega)]
    rfl
/-- Two that are decoded from the same bytes are one. -/
theorem Dec_one {b : List UInt8} {a : Nat} {r r' : Option (TApiInode × Int × Int)} (hb : b.length ≤ 5000) (ha : a ≤ b.length) (h : Dec b a r) (h' : Dec b a r') : r = r' := by
  rcases h with ⟨h1, h2⟩ | ⟨n, h1, h2, h3⟩
  · rcases h' with ⟨h4, h5⟩ | ⟨m, h4, h5, h6⟩
    · rw [h1, h4]
    · exact absurd h6 (h2 m h5)
  · rcases h' with ⟨h4, h5⟩ | ⟨m, h4, h5, h6⟩
    · exact absurd h3 (h5 n h2)
    · have : n = m := by
        obtain ⟨hk, hg⟩ := good_of_chk h2
        obtain ⟨hk', hg'⟩ := good_of_chk h5
        obtain ⟨p1, p2⟩ := (bytes_iff hk hg _).1 h3
        obtain ⟨q1, q2⟩ := (bytes_iff hk' hg' _).1 h6
        by_cases h24 : a + 24 ≤ b.length
        · obtain ⟨mm, ok, g1, g2⟩ := guess_all b a ha (by omega)
          exact (g2 n h2 p1 p2 h24).1.symm.trans (g2 m h5 q1 q2 h24).1
        · obtain ⟨mm, ok, g1, g2⟩ := short_all b a ha hb
          exact (g2 n h2 h3 h24).1.symm.trans (g2 m h5 h6 h24).1
      subst this
      rw [h1, h4]
end Go.Proofs.Ytebbaokcgnjfiaa.F
