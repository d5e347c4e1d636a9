/- Tables in plain words: bytes as sets of attributes. -/
import Derived.Test.YtgoedcjjckdlpaaLTTab5
import Derived.Test.YtgoedcjjckdlpaaLTText
set_option linter.unusedVariables false
set_option linter.unusedSimpArgs false
namespace Go.Proofs.Ytgoedcjjckdlpaa.F
open Go Go.RowKit Go.Proofs.Ytgoedcjjckdlpaa.K

/-- What stands at a place: the lengths, the attribute. -/
def nmL (b : List UInt8) (p : Nat) : Nat := rd b p 1
def vlL (b : List UInt8) (p : Nat) : Nat := rd b (p + 1 + nmL b p) 2
def nextA (b : List UInt8) (p : Nat) : Nat := p + 1 + nmL b p + 2 + vlL b p
def attrAt (b : List UInt8) (p : Nat) : TApiAttr := { Name := (b.drop (p + 1)).take (nmL b p), Value := (b.drop (p + 1 + nmL b p + 2)).take (vlL b p) }
def there (M : Nat) (b : List UInt8) (p : Nat) : Prop := p + 1 ≤ b.length ∧ p + 1 + nmL b p + 2 ≤ b.length ∧ vlL b p ≤ M ∧ nextA b p ≤ b.length
instance (M : Nat) (b : List UInt8) (p : Nat) : Decidable (there M b p) := by unfold there; infer_instance
def parseA (M : Nat) (b : List UInt8) : Nat → Nat → Option (List TApiAttr × Nat)
  | p, 0 => some ([], p)
  | p, n + 1 => if there M b p then (parseA M b (nextA b p) n).map fun r => (attrAt b p :: r.1, r.2) else none
theorem nmL_lt (b : List UInt8) (p : Nat) : nmL b p < 256 := rd_lt b p 1
theorem vlL_lt (b : List UInt8) (p : Nat) : vlL b p < 65536 := rd_lt b _ 2
theorem parse_len (M : Nat) (b : List UInt8) : ∀ n p l q, parseA M b p n = some (l, q) → l.length = n ∧ p ≤ q ∧ (p ≤ b.length → q ≤ b.length)
  | 0, p, l, q, h => by
    unfold parseA at h
    injection h with h
    injection h with h1 h2
    subst h1; subst h2
    exact ⟨rfl, Nat.le_refl _, id⟩
  | n + 1, p, l, q, h => by
    unfold parseA at h
    by_cases ht : there M b p
    · rw [if_pos ht] at h
      obtain ⟨⟨l', q'⟩, h1, h2⟩ := Option.map_eq_some_iff.1 h
      injection h2 with h3 h4
      obtain ⟨g1, g2, g3⟩ := parse_len M b n _ _ _ h1
      have hn : p ≤ nextA b p := by unfold nextA; omega
      dsimp only at h3 h4
      subst h4
      refine ⟨by rw [← h3, List.length_cons, g1], Nat.le_trans hn g2, fun _ => g3 ht.2.2.2⟩
    · rw [if_neg ht] at h; cases h
theorem parse_up {M M' : Nat} (hM : M ≤ M') (b : List UInt8) : ∀ n p r, parseA M b p n = some r → parseA M' b p n = some r
  | 0, p, r, h => h
  | n + 1, p, r, h => by
    unfold parseA at h ⊢
    by_cases ht : there M b p
    · rw [if_pos ht] at h
      rw [if_pos ⟨ht.1, ht.2.1, Nat.le_trans ht.2.2.1 hM, ht.2.2.2⟩]
      obtain ⟨r', h1, h2⟩ := Option.map_eq_some_iff.1 h
      rw [parse_up hM b n _ _ h1]
      exact congrArg some h2
    · rw [if_neg ht] at h; cases h
theorem parse_big (b : List UInt8) : ∀ n p l q last, parseA 65535 b p n = some (l, q) → parseA 4096 b p n = none → rightA last l = false
  | 0, p, l, q, last, h, h' => by cases h'
  | n + 1, p, l, q, last, h, h' => by
    unfold parseA at h h'
    by_cases ht : there 65535 b p
    · rw [if_pos ht] at h
      obtain ⟨⟨l', q'⟩, h1, h2⟩ := Option.map_eq_some_iff.1 h
      injection h2 with h3 h4
      dsimp only at h3 h4
      subst h3
      unfold rightA
      by_cases ht' : there 4096 b p
      · rw [if_pos ht'] at h'
        have h5 := Option.map_eq_none_iff.1 h'
        rw [parse_big b n _ _ _ _ h1 h5]
        simp
      · have hv : ¬ (attrAt b p).Value.length ≤ 4096 := by
          intro h
          have hl : (attrAt b p).Value.length = vlL b p := by
            unfold attrAt
            dsimp only
            have := ht.2.2.2
            unfold nextA at this
            rw [List.length_take, List.length_drop]
            omega
          exact ht' ⟨ht.1, ht.2.1, by omega, ht.2.2.2⟩
        rw [decide_eq_false hv]
        simp
    · rw [if_neg ht] at h; cases h
/-- What both answer. -/
def decA (b : List UInt8) (a : Nat) : List TApiAttr × Int × Int :=
  if a + 2 ≤ b.length then match parseA 65535 b (a + 2) (rd b a 2) with | some (l, q) => if setB l then (l, (q : Int), 0) else ([], 0, 6) | none => ([], 0, 6) else ([], 0, 6)
theorem wrap_off (x : Int) : IntKind.i64.wrap x = IntKind.i64.wrap x := rfl
/-- A round of the reader. -/
theorem round_any {s : List UInt8} (hs : s.length ≤ 10000000) {num : UInt64 × TFieldReader} {r : TFieldReader} (hr : Rd s r) {out : List TApiAttr} (ho : out.length ≤ 10000) {t : UInt64} (ht : t.toNat < num.1.toNat) :
    ∃ x r', table_DecodeAttrs_l1 num out r.f_b r.f_at r.f_e t = some (.inl (out ++ [x], r'.f_b, r'.f_at, r'.f_e, t + 1)) ∧ Rd s r' ∧ (r'.f_e = 0 ↔ r.f_e = 0 ∧ there 4096 s r.f_at.toNat) ∧ (r'.f_e = 0 → x = attrAt s r.f_at.toNat ∧ r'.f_at = (nextA s r.f_at.toNat : Int)) := by
  obtain ⟨v, r1, e1, e2, e3, e4, e5, e6, e7⟩ := Num_any (l := s) (by omega) hr (w := 1) (by omega)
  obtain ⟨y, r2, f1, f2, f3, f4, f5, f6, f7⟩ := take_any (l := s) (by omega) e2 (n := (v.toNat : Int)) (by omega)
  obtain ⟨z, r3, g1, g2, g3, g4, g5, g6⟩ := Text_any (l := s) (by omega) f2 (most := 4096) (by omega)
  have hlo := hr.lo
  obtain ⟨p, hp⟩ : ∃ p : Nat, r.f_at = (p : Int) := ⟨r.f_at.toNat, by omega⟩
  rw [hp] at e3 e4 ⊢
  simp only [Int.toNat_natCast] at e4 ⊢
  have h1 : r1.f_e = 0 → r1.f_at = ((p + 1 : Nat) : Int) ∧ v.toNat = nmL s p := fun h => ⟨by rw [(e4 h).1]; omega, (e4 h).2⟩
  have h2 : r2.f_e = 0 → r1.f_e = 0 ∧ r2.f_at = ((p + 1 + nmL s p : Nat) : Int) ∧ y = (s.drop (p + 1)).take (nmL s p) := fun h => by
    obtain ⟨k1, k2⟩ := f3.1 h
    obtain ⟨k3, k4⟩ := f4 h
    obtain ⟨k5, k6⟩ := h1 k1
    refine ⟨k1, by rw [k3, k5, k6]; omega, ?_⟩
    rw [k4, k5, k6, Int.toNat_natCast, Int.toNat_natCast]
  have hb : (⟨r.f_b, (p : Int), r.f_e⟩ : TFieldReader) = r := by cases r; dsimp only at hp; rw [hp]
  refine ⟨{ Name := y, Value := z }, r3, ?_, g2, ?_, ?_⟩
  · unfold table_DecodeAttrs_l1
    rw [decide_eq_true (by omega), cond_true, hb, show (1 : Int) = ((1 : Nat) : Int) from rfl, e1, Option.bind_some]
    unfold field_Reader_Bytes
    dsimp only
    have hv := e7
    rw [wI (by omega), f1, Option.bind_some]
    dsimp only
    rw [copied_ok (by omega), Option.bind_some, Option.bind_some]
    dsimp only
    rw [g1, Option.bind_some, app_ok (by rw [List.length_cons, List.length_nil]; omega), Option.bind_some]
  · constructor
    · intro h
      obtain ⟨k1, k2, k3, k4⟩ := g3.1 h
      obtain ⟨k5, k6, k7⟩ := h2 k1
      rw [k6] at k2 k3 k4
      rw [Int.toNat_natCast] at k3 k4
      have k8 := (e3.1 k5)
      refine ⟨k8.1, by omega, by omega, ?_, ?_⟩
      · have : vlL s p = le ((s.drop (p + 1 + nmL s p)).take 2) := rfl
        omega
      · have : vlL s p = le ((s.drop (p + 1 + nmL s p)).take 2) := rfl
        unfold nextA
        omega
    · rintro ⟨k1, k2, k3, k4, k5⟩
      have j1 : r1.f_e = 0 := e3.2 ⟨k1, by omega⟩
      obtain ⟨j2, j3⟩ := h1 j1
      have j4 : r2.f_e = 0 := f3.2 ⟨j1, by rw [j2, j3]; omega⟩
      obtain ⟨j5, j6, j7⟩ := h2 j4
      unfold nextA at k5
      have : vlL s p = le ((s.drop (p + 1 + nmL s p)).take 2) := rfl
      refine g3.2 ⟨j4, ?_, ?_, ?_⟩
      · rw [j6]; omega
      · rw [j6, Int.toNat_natCast]; omega
      · rw [j6, Int.toNat_natCast]; omega
  · intro h
    obtain ⟨k1, k2, k3, k4⟩ := g3.1 h
    obtain ⟨k5, k6, k7⟩ := h2 k1
    obtain ⟨m1, m2⟩ := g4 h
    rw [k6, Int.toNat_natCast] at m1 m2
    refine ⟨?_, ?_⟩
    · rw [k7, m2]; rfl
    · rw [m1]
      have : vlL s p = le ((s.drop (p + 1 + nmL s p)).take 2) := rfl
      unfold nextA
      omega
theorem rounds (s : List UInt8) (hs : s.length ≤ 10000000) (num : UInt64 × TFieldReader) (hn : num.1.toNat ≤ 64) : ∀ k (t : UInt64) (r : TFieldReader) (out : List TApiAttr), num.1.toNat - t.toNat = k → t.toNat ≤ num.1.toNat → out.length ≤ t.toNat → Rd s r →
    ∃ (l : List TApiAttr) (r' : TFieldReader), loopO (fun s => table_DecodeAttrs_l1 num s.1 s.2.1 s.2.2.1 s.2.2.2.1 s.2.2.2.2) (out, r.f_b, r.f_at, r.f_e, t) = some (l, r'.f_b, r'.f_at, r'.f_e) ∧
      (r.f_e ≠ 0 → r'.f_e ≠ 0) ∧ (r.f_e = 0 → match parseA 4096 s r.f_at.toNat k with | some (x, q) => r'.f_e = 0 ∧ r'.f_at = (q : Int) ∧ l = out ++ x | none => r'.f_e ≠ 0) := by
  intro k
  induction k with
  | zero =>
    intro t r out h1 h2 h3 h4
    refine ⟨out, r, loop_end ?_, id, fun h => ⟨h, ?_, by simp⟩⟩
    · show table_DecodeAttrs_l1 num out r.f_b r.f_at r.f_e t = _
      unfold table_DecodeAttrs_l1
      rw [decide_eq_false (by omega)]
      rfl
    · have := h4.lo
      omega
  | succ k ih =>
    intro t r out h1 h2 h3 h4
    obtain ⟨x, r1, e1, e2, e3, e4⟩ := round_any hs (num := num) h4 (out := out) (by omega) (t := t) (by omega)
    have ht1 : (t + 1).toNat = t.toNat + 1 := by
      rw [UInt64.toNat_add]
      show (t.toNat + 1) % 2 ^ 64 = _
      omega
    obtain ⟨l, r', f1, f2, f3⟩ := ih (t + 1) r1 (out ++ [x]) (by omega) (by omega) (by rw [List.length_append, List.length_cons, List.length_nil]; omega) e2
    refine ⟨l, r', (loop_next (s' := (out ++ [x], r1.f_b, r1.f_at, r1.f_e, t + 1)) e1).trans f1, ?_, ?_⟩
    · intro h
      exact f2 (fun h' => h (e3.1 h').1)
    · intro h
      unfold parseA
      by_cases hth : there 4096 s r.f_at.toNat
      · have h5 : r1.f_e = 0 := e3.2 ⟨h, hth⟩
        obtain ⟨h6, h7⟩ := e4 h5
        have h8 := f3 h5
        rw [h7, Int.toNat_natCast] at h8
        rw [if_pos hth]
        cases hp : parseA 4096 s (nextA s r.f_at.toNat) k with
        | none =>
          rw [hp] at h8
          exact h8
        | some r =>
          rw [hp] at h8
          obtain ⟨h9, h10, h11⟩ := h8
          exact ⟨h9, h10, by rw [h11, h6, List.append_assoc]; rfl⟩
      · rw [if_neg hth]
        exact f2 (fun h' => hth (e3.1 h').2)
/-- The same read in the rest. -/
theorem there_drop (M : Nat) (b : List UInt8) (a p : Nat) (ha : a ≤ b.length) : there M (b.drop a) p ↔ there M b (a + p) := by
  unfold there nextA vlL nmL
  rw [rd_drop, rd_drop, List.length_drop, show a + (p + 1 + rd b (a + p) 1) = a + p + 1 + rd b (a + p) 1 by omega]
  omega
theorem next_drop (b : List UInt8) (a p : Nat) : a + nextA (b.drop a) p = nextA b (a + p) := by
  unfold nextA vlL nmL
  rw [rd_drop, rd_drop, show a + (p + 1 + rd b (a + p) 1) = a + p + 1 + rd b (a + p) 1 by omega]
  omega
theorem attr_drop (b : List UInt8) (a p : Nat) : attrAt (b.drop a) p = attrAt b (a + p) := by
  unfold attrAt vlL nmL
  rw [rd_drop, rd_drop, List.drop_drop, List.drop_drop, show a + (p + 1 + rd b (a + p) 1) = a + p + 1 + rd b (a + p) 1 by omega, show a + (p + 1) = a + p + 1 by omega, show a + (p + 1 + rd b (a + p) 1 + 2) = a + p + 1 + rd b (a + p) 1 + 2 by omega]
theorem parse_drop (M : Nat) (b : List UInt8) (a : Nat) (ha : a ≤ b.length) : ∀ n p, (parseA M (b.drop a) p n).map (fun r => (r.1, a + r.2)) = parseA M b (a + p) n
  | 0, p => rfl
  | n + 1, p => by
    unfold parseA
    by_cases h : there M b (a + p)
    · rw [if_pos h, if_pos ((there_drop M b a p ha).2 h), ← next_drop, ← parse_drop M b a ha n, attr_drop]
      cases parseA M (b.drop a) (nextA (b.drop a) p) n <;> rfl
    · rw [if_neg h, if_neg (fun h' => h ((there_drop M b a p ha).1 h'))]
      rfl
theorem DecodeAttrs_ok (b : List UInt8) (hb : b.length ≤ 1000000) (a : Nat) (ha : a ≤ b.length) : table_DecodeAttrs b (a : Int) = some (decA b a) := by
  have hs : (b.drop a).length = b.length - a := List.length_drop
  unfold table_DecodeAttrs decA
  rw [decide_eq_false (by omega), cond_false, decide_eq_false (by omega), cond_false, slc_ok (by omega), Option.bind_some, Int.toNat_natCast, Int.toNat_natCast, List.take_length, new_ok (by omega), Option.bind_some]
  obtain ⟨v, r1, e1, e2, e3, e4, e5, e6, e7⟩ := Num_any (l := b.drop a) (by omega) (r := ⟨b.drop a, 0, 0⟩) ⟨rfl, by dsimp only; omega, by dsimp only; omega⟩ (w := 2) (by omega)
  rw [show (2 : Int) = ((2 : Nat) : Int) from rfl, e1, Option.bind_some]
  dsimp only at e3 e4 ⊢
  by_cases h2 : a + 2 ≤ b.length
  · rw [if_pos h2]
    have h0 := e3.2 ⟨rfl, by omega⟩
    obtain ⟨h3, h4⟩ := e4 h0
    have hv : v.toNat = rd b a 2 := by
      rw [h4]
      have := rd_drop b a 0 2
      rw [Nat.add_zero] at this
      exact this
    by_cases h64 : v.toNat ≤ 64
    · rw [decide_eq_false (by omega), cond_false]
      obtain ⟨l, r', f1, f2, f3⟩ := rounds (b.drop a) (by omega) (v, r1) h64 v.toNat 0 r1 [] (by show v.toNat - 0 = _; omega) (Nat.zero_le _) (Nat.zero_le _) e2
      rw [f1, Option.bind_some]
      have f3 := f3 h0
      rw [h3, show ((0 : Int) + ((2 : Nat) : Int)).toNat = 2 from rfl] at f3
      have hd := parse_drop 4096 b a ha v.toNat 2
      rw [← hv]
      unfold field_Reader_Err
      dsimp only
      rw [Option.bind_some]
      cases hp : parseA 4096 (b.drop a) 2 v.toNat with
      | none =>
        rw [hp] at f3 hd
        dsimp only at f3
        rw [show (r'.f_e != 0) = true from bne_iff_ne.2 f3, cond_true]
        cases hq : parseA 65535 b (a + 2) v.toNat with
        | none => rfl
        | some r =>
          obtain ⟨l', q⟩ := r
          have : setB l' = false := by
            unfold setB
            rw [parse_big b _ _ _ _ [] hq hd.symm]
            rfl
          dsimp only
          rw [this]
          rfl
      | some r =>
        obtain ⟨x, q⟩ := r
        rw [hp] at f3 hd
        obtain ⟨g1, g2, g3⟩ := f3
        have hq := parse_up (by omega : 4096 ≤ 65535) b _ _ _ hd.symm
        rw [hq]
        have hlen := (parse_len 65535 b _ _ _ _ hq).2.2 (by omega)
        dsimp only at hlen
        rw [g1, g3, g2, show ((0 : Int) != 0) = false from rfl, cond_false, List.nil_append, tright_ok]
        show Option.bind (some (setB x)) _ = _
        rw [Option.bind_some, wI (by omega), show (a : Int) + (q : Int) = ((a + q : Nat) : Int) by omega]
        dsimp only
        cases setB x <;> rfl
    · rw [decide_eq_true (by omega), cond_true, ← hv]
      cases hq : parseA 65535 b (a + 2) v.toNat with
      | none => rfl
      | some r =>
        obtain ⟨l', q⟩ := r
        have hlen := (parse_len 65535 b _ _ _ _ hq).1
        have : setB l' = false := by
          unfold setB
          rw [decide_eq_false (show ¬ l'.length ≤ 64 by omega)]
          simp
        dsimp only
        rw [this]
        rfl
  · rw [if_neg h2]
    have h0 : ¬ r1.f_e = 0 := fun h => by
      have := (e3.1 h).2
      omega
    have h6 := e6 h0
    rw [h6, show decide (((0 : Nat) : Int) > 64) = false from rfl, cond_false]
    obtain ⟨l, r', f1, f2, f3⟩ := rounds (b.drop a) (by omega) (v, r1) (by show v.toNat ≤ 64; omega) 0 0 r1 [] (by show v.toNat - 0 = _; omega) (Nat.zero_le _) (Nat.zero_le _) e2
    rw [f1, Option.bind_some]
    have f2 := f2 h0
    unfold field_Reader_Err
    dsimp only
    rw [Option.bind_some, show (r'.f_e != 0) = true from bne_iff_ne.2 f2, cond_true]
theorem rd1 (b : List UInt8) (p : Nat) (h : p < b.length) : rd b p 1 = b[p].toNat := by
  unfold rd
  rw [List.drop_eq_getElem_cons h, List.take_succ_cons, List.take_zero, le, le]
  omega
theorem ref_rounds (b : List UInt8) (hb : b.length ≤ 1000000) (load : UInt64) (hn : load.toNat < 65536) : ∀ k (i : Nat) (p : Nat) (out : List TApiAttr), load.toNat - i = k → i ≤ load.toNat → out.length ≤ i → p ≤ b.length →
    loopO (fun s => ref17_DecodeAttrs_l1 b load s.1 s.2.1 s.2.2) ((p : Int), out, (i : Int)) = some (match parseA 65535 b p k with | some (x, q) => .inl ((q : Int), out ++ x) | none => .inr ([], 0, 6)) := by
  intro k
  induction k with
  | zero =>
    intro i p out h1 h2 h3 h4
    refine loop_end ?_
    show ref17_DecodeAttrs_l1 b load (p : Int) out (i : Int) = _
    unfold ref17_DecodeAttrs_l1 parseA
    rw [wI (by omega), decide_eq_false (by omega), cond_false]
    simp
  | succ k ih =>
    intro i p out h1 h2 h3 h4
    have step : ref17_DecodeAttrs_l1 b load (p : Int) out (i : Int) = if there 65535 b p then some (.inl ((nextA b p : Int), out ++ [attrAt b p], ((i + 1 : Nat) : Int))) else some (.inr (.inr ([], 0, 6))) := by
      unfold ref17_DecodeAttrs_l1
      rw [wI (x := (load.toNat : Int)) (by omega), decide_eq_true (show (i : Int) < (load.toNat : Int) by omega), cond_true]
      by_cases c1 : p < b.length
      · have hx := List.getElem?_eq_getElem c1
        have hr1 : nmL b p = b[p].toNat := rd1 b p c1
        have hlt := nmL_lt b p
        rw [decide_eq_false (by omega), cond_false, idx_ok hx, Option.bind_some, ← hr1, wI (x := (p : Int) + 1) (by omega), wI (x := (p : Int) + 1 + (nmL b p : Int)) (by omega), wI (x := (p : Int) + 1 + (nmL b p : Int) + 2) (by omega)]
        by_cases c2 : p + 1 + nmL b p + 2 ≤ b.length
        · rw [decide_eq_false (by omega), cond_false, slc_ok (by omega), Option.bind_some]
          have hy : (b.take ((p : Int) + 1 + (nmL b p : Int)).toNat).drop ((p : Int) + 1).toNat = (b.drop (p + 1)).take (nmL b p) := by
            rw [List.drop_take, show ((p : Int) + 1 + (nmL b p : Int)).toNat - ((p : Int) + 1).toNat = nmL b p by omega, show ((p : Int) + 1).toNat = p + 1 by omega]
          rw [hy]
          have hyl : ((b.drop (p + 1)).take (nmL b p)).length = nmL b p := by rw [List.length_take, List.length_drop]; omega
          rw [hyl, wI (x := (p : Int) + 1 + (nmL b p : Int)) (by omega), wI (x := (p : Int) + 1 + (nmL b p : Int) + 2) (by omega)]
          obtain ⟨v, g1, g2⟩ := Load_ok (b := b) (p := (p : Int) + 1 + (nmL b p : Int)) (w := 2) (by omega) (by omega) (by omega)
          rw [show ((p : Int) + 1 + (nmL b p : Int)).toNat = p + 1 + nmL b p by omega] at g2
          have g3 : v.toNat = vlL b p := g2
          have g4 := vlL_lt b p
          rw [show (2 : Int) = ((2 : Nat) : Int) from rfl, g1, Option.bind_some, g3, wI (x := (vlL b p : Int)) (by omega), wI (by omega)]
          by_cases c3 : nextA b p ≤ b.length
          · have c3' := c3
            unfold nextA at c3'
            rw [decide_eq_false (by omega), cond_false, slc_ok (by omega), Option.bind_some, app_ok (by rw [List.length_cons, List.length_nil]; omega), Option.bind_some, wI (by omega), if_pos ⟨by omega, c2, by omega, c3⟩]
            have hz : (b.take ((p : Int) + 1 + (nmL b p : Int) + ((2 : Nat) : Int) + (vlL b p : Int)).toNat).drop ((p : Int) + 1 + (nmL b p : Int) + ((2 : Nat) : Int)).toNat = (b.drop (p + 1 + nmL b p + 2)).take (vlL b p) := by
              rw [List.drop_take, show ((p : Int) + 1 + (nmL b p : Int) + ((2 : Nat) : Int) + (vlL b p : Int)).toNat - ((p : Int) + 1 + (nmL b p : Int) + ((2 : Nat) : Int)).toNat = vlL b p by omega, show ((p : Int) + 1 + (nmL b p : Int) + ((2 : Nat) : Int)).toNat = p + 1 + nmL b p + 2 by omega]
            rw [hz, show (p : Int) + 1 + (nmL b p : Int) + ((2 : Nat) : Int) + (vlL b p : Int) = ((nextA b p : Nat) : Int) by unfold nextA; omega]
            rfl
          · have c3' := c3
            unfold nextA at c3'
            rw [decide_eq_true (by omega), cond_true, if_neg (fun h => c3 h.2.2.2)]
        · rw [decide_eq_true (by omega), cond_true, if_neg (fun h => c2 h.2.1)]
      · rw [decide_eq_true (by omega), cond_true, if_neg (fun h => c1 h.1)]
    unfold parseA
    by_cases ht : there 65535 b p
    · rw [if_pos ht] at step ⊢
      have := (loop_next (body := fun s => ref17_DecodeAttrs_l1 b load s.1 s.2.1 s.2.2) (s := ((p : Int), out, (i : Int))) (s' := ((nextA b p : Int), out ++ [attrAt b p], ((i + 1 : Nat) : Int))) step).trans (ih (i + 1) (nextA b p) (out ++ [attrAt b p]) (sub1 h1) (by omega) (by rw [List.length_append, List.length_cons, List.length_nil]; omega) ht.2.2.2)
      rw [this]
      cases parseA 65535 b (nextA b p) k with
      | none => rfl
      | some r => simp
    · rw [if_neg ht] at step ⊢
      exact loop_end step
theorem refDecodeAttrs_ok (b : List UInt8) (hb : b.length ≤ 1000000) (a : Nat) (ha : a ≤ b.length) : ref17_DecodeAttrs b (a : Int) = some (decA b a) := by
  unfold ref17_DecodeAttrs decA
  rw [decide_eq_false (by omega), cond_false, decide_eq_false (by omega), cond_false, wI (by omega)]
  by_cases h2 : a + 2 ≤ b.length
  · rw [decide_eq_false (by omega), cond_false, if_pos h2]
    obtain ⟨v, g1, g2⟩ := Load_ok (b := b) (p := (a : Int)) (w := 2) (by omega) (by omega) (by omega)
    rw [Int.toNat_natCast] at g2
    have g3 : rd b a 2 < 65536 := rd_lt b a 2
    have := ref_rounds b hb v (by omega) v.toNat 0 (a + 2) [] (by omega) (by omega) (Nat.zero_le _) h2
    rw [show (((0 : Nat)) : Int) = 0 from rfl] at this
    rw [show (2 : Int) = ((2 : Nat) : Int) from rfl, g1, Option.bind_some, show (a : Int) + ((2 : Nat) : Int) = ((a + 2 : Nat) : Int) by omega, this, g2]
    cases parseA 65535 b (a + 2) (rd b a 2) with
    | none => rfl
    | some r =>
      obtain ⟨l, q⟩ := r
      dsimp only
      rw [bnd_inl]
      dsimp only
      rw [List.nil_append, RightAttrs_ok, Option.bind_some]
      cases setB l <;> rfl
  · rw [decide_eq_true (by omega), cond_true, if_neg h2]
/-- A written set is read back. -/
theorem rd_at (u v : List UInt8) (q w n : Nat) (hq : q = u.length) (hn : n < 256 ^ w) : rd (u ++ (enc w n ++ v)) q w = n := by
  unfold rd
  rw [hq, List.drop_left, List.take_append_of_le_length (by rw [enc_length]; omega), List.take_of_length_le (by rw [enc_length]; omega), le_enc, Nat.mod_eq_of_lt hn]
theorem parse_back (z : List UInt8) : ∀ (l : List TApiAttr) (a : List UInt8), (∀ x ∈ l, x.Name.length ≤ 255 ∧ x.Value.length ≤ 4096) → parseA 65535 (a ++ (attrsB l ++ z)) a.length l.length = some (l, a.length + (attrsB l).length)
  | [], a, h => rfl
  | x :: l, a, h => by
    obtain ⟨n1, n2⟩ := h x (by simp)
    have e : a ++ (attrsB (x :: l) ++ z) = (a ++ attrB x) ++ (attrsB l ++ z) := by unfold attrsB; rw [List.flatMap_cons, List.append_assoc, List.append_assoc]
    have f1 : a ++ (attrsB (x :: l) ++ z) = a ++ (enc 1 x.Name.length ++ (x.Name ++ (enc 2 x.Value.length ++ (x.Value ++ (attrsB l ++ z))))) := by
      rw [e]; unfold attrB; simp only [List.append_assoc]
    have f2 : a ++ (attrsB (x :: l) ++ z) = (a ++ enc 1 x.Name.length) ++ (x.Name ++ (enc 2 x.Value.length ++ (x.Value ++ (attrsB l ++ z)))) := by rw [f1]; simp only [List.append_assoc]
    have f3 : a ++ (attrsB (x :: l) ++ z) = (a ++ enc 1 x.Name.length ++ x.Name) ++ (enc 2 x.Value.length ++ (x.Value ++ (attrsB l ++ z))) := by rw [f1]; simp only [List.append_assoc]
    have f4 : a ++ (attrsB (x :: l) ++ z) = (a ++ enc 1 x.Name.length ++ x.Name ++ enc 2 x.Value.length) ++ (x.Value ++ (attrsB l ++ z)) := by rw [f1]; simp only [List.append_assoc]
    obtain ⟨b, hb⟩ : ∃ b, b = a ++ (attrsB (x :: l) ++ z) := ⟨_, rfl⟩
    have k1 : nmL b a.length = x.Name.length := by unfold nmL; rw [hb, f1]; exact rd_at _ _ _ _ _ rfl (by omega)
    have k2 : vlL b a.length = x.Value.length := by unfold vlL; rw [k1, hb, f3]; exact rd_at _ _ _ _ _ (by simp only [List.length_append, enc_length]) (by omega)
    have k3 : attrAt b a.length = x := by
      unfold attrAt
      rw [k1, k2]
      have m1 : (b.drop (a.length + 1)).take x.Name.length = x.Name := by
        rw [hb, f2, List.drop_left' (by rw [List.length_append, enc_length]), List.take_left]
      have m2 : (b.drop (a.length + 1 + x.Name.length + 2)).take x.Value.length = x.Value := by
        rw [hb, f4, List.drop_left' (by simp only [List.length_append, enc_length]), List.take_left]
      rw [m1, m2]
    have k4 : nextA b a.length = (a ++ attrB x).length := by unfold nextA; rw [k1, k2, List.length_append, attrB_len]; omega
    have hbl : b.length = a.length + (attrB x).length + (attrsB l).length + z.length := by rw [hb, e]; simp only [List.length_append]; omega
    have hal := attrB_len x
    have ht : there 65535 b a.length := ⟨by omega, by rw [k1]; omega, by rw [k2]; omega, by rw [k4, List.length_append]; omega⟩
    have ih := parse_back z l (a ++ attrB x) (fun y hy => h y (by simp [hy]))
    rw [← e, ← hb] at ih
    rw [← hb, List.length_cons, parseA, if_pos ht, k4, ih, k3]
    have : (attrsB (x :: l)).length = (attrB x).length + (attrsB l).length := by unfold attrsB; rw [List.flatMap_cons, List.length_append]
    rw [this, List.length_append, Nat.add_assoc]
    rfl
theorem set_back (l : List TApiAttr) (a z : List UInt8) (h : setB l = true) : decA (a ++ ((enc 2 l.length ++ attrsB l) ++ z)) a.length = (l, ((a.length + (enc 2 l.length ++ attrsB l).length : Nat) : Int), 0) := by
  have hs := h
  unfold setB at hs
  simp only [Bool.and_eq_true, decide_eq_true_eq] at hs
  have he := rightA_each l [] hs.1
  have hp := parse_back z l (a ++ enc 2 l.length) (fun x hx => (he x hx).2)
  have e : a ++ ((enc 2 l.length ++ attrsB l) ++ z) = (a ++ enc 2 l.length) ++ (attrsB l ++ z) := by simp only [List.append_assoc]
  have e2 : a ++ ((enc 2 l.length ++ attrsB l) ++ z) = a ++ (enc 2 l.length ++ (attrsB l ++ z)) := by simp only [List.append_assoc]
  unfold decA
  have k1 : rd (a ++ ((enc 2 l.length ++ attrsB l) ++ z)) a.length 2 = l.length := by rw [e2]; exact rd_at _ _ _ _ _ rfl (by omega)
  rw [k1, if_pos (by simp only [List.length_append, enc_length]; omega)]
  rw [← e, List.length_append, enc_length] at hp
  rw [hp]
  dsimp only
  rw [if_pos h, List.length_append, enc_length, Nat.add_assoc]
theorem TableSets_pure (b : List UInt8) (_ : (rSl rU8).wf b) (at_ : Int) (_ : rI64.wf at_) : law17_TableSets b at_ = some true := by
  unfold law17_TableSets
  by_cases h : b.length ≤ 6000
  · rw [decide_eq_false (by omega), cond_false]
    have main : ∀ d, table_DecodeAttrs b at_ = some d → ref17_DecodeAttrs b at_ = some d → (Option.bind (table_DecodeAttrs b at_) fun decode =>
        Option.bind (ref17_DecodeAttrs b at_) fun decode1 =>
        Option.bind (ref11_SameAttrs decode.1 decode1.1) fun sameAt =>
        cond sameAt
        (cond (decode.2.1 == decode1.2.1)
        (cond ((law17_num decode.2.2) == decode1.2.2)
        (Option.bind law17_live fun live1 =>
        some live1)
        (some false))
        (some false))
        (some false)) = some true := by
      intro d h1 h2
      rw [h1, h2, Option.bind_some, Option.bind_some, SameAttrs_eq, live17]
      unfold law17_num
      simp
    by_cases c1 : at_ < 0
    · refine main ([], 0, 9) ?_ ?_
      · unfold table_DecodeAttrs; rw [decide_eq_true c1, cond_true]
      · unfold ref17_DecodeAttrs; rw [decide_eq_true c1, cond_true]
    · by_cases c2 : at_ > b.length
      · refine main ([], 0, 9) ?_ ?_
        · unfold table_DecodeAttrs; rw [decide_eq_false c1, cond_false, decide_eq_true c2, cond_true]
        · unfold ref17_DecodeAttrs; rw [decide_eq_false c1, cond_false, decide_eq_true c2, cond_true]
      · obtain ⟨a, rfl⟩ : ∃ a : Nat, at_ = (a : Int) := ⟨at_.toNat, by omega⟩
        exact main _ (DecodeAttrs_ok b (by omega) a (by omega)) (refDecodeAttrs_ok b (by omega) a (by omega))
  · rw [decide_eq_true (by omega), cond_true, live17]
    rfl
theorem TableAttrs_pure (l : List TApiAttr) (_ : (rSl rApiAttr).wf l) (a : List UInt8) (_ : (rSl rU8).wf a) (b : List UInt8) (_ : (rSl rU8).wf b) : law17_TableAttrs l a b = some true := by
  unfold law17_TableAttrs
  by_cases h1 : l.length > 70
  · rw [decide_eq_true (show (l.length : Int) > 70 by omega), cond_true, live17]; rfl
  rw [decide_eq_false (show ¬ (l.length : Int) > 70 by omega), cond_false]
  by_cases h2 : a.length > 300
  · rw [decide_eq_true (show (a.length : Int) > 300 by omega), cond_true, live17]; rfl
  rw [decide_eq_false (show ¬ (a.length : Int) > 300 by omega), cond_false]
  by_cases h3 : b.length > 300
  · rw [decide_eq_true (show (b.length : Int) > 300 by omega), cond_true, live17]; rfl
  rw [decide_eq_false (show ¬ (b.length : Int) > 300 by omega), cond_false]
  have hl := loop_any l (fun s => law17_TableAttrs_l1 l s) (fun x => if (decide ((x.Name.length : Int) > 300) || decide ((x.Value.length : Int) > 5000)) then some true else none) (fun t x hx => by
    have hlt := (List.getElem?_eq_some_iff.1 hx).1
    show law17_TableAttrs_l1 l t = _
    unfold law17_TableAttrs_l1
    rw [decide_eq_true (by omega), cond_true, hx, Option.bind_some, live17]
    cases decide ((x.Name.length : Int) > 300) <;> cases decide ((x.Value.length : Int) > 5000) <;> rfl) (by
    show law17_TableAttrs_l1 l l.length = _
    unfold law17_TableAttrs_l1
    rw [decide_eq_false (by omega)]
    rfl)
  rw [hl, find_if]
  cases l.any fun x => decide ((x.Name.length : Int) > 300) || decide ((x.Value.length : Int) > 5000)
  · simp only [Bool.false_eq_true, if_false]
    rw [bnd_inl, EncodeAttrs_ok, Option.bind_some, RightAttrs_ok, Option.bind_some]
    cases hs : setB l
    · simp only [Bool.false_eq_true, if_false]
      rw [cond_false, live17]
      rfl
    · rw [if_pos rfl, cond_true]
      have hs' := hs
      unfold setB at hs'
      simp only [Bool.and_eq_true, decide_eq_true_eq] at hs'
      have he := rightA_each l [] hs'.1
      have hlen := attrsB_len (fun x hx => (he x hx).2)
      have hel : (enc 2 l.length ++ attrsB l).length ≤ 400000 := by rw [List.length_append, enc_length]; omega
      have hd := DecodeAttrs_ok (a ++ ((enc 2 l.length ++ attrsB l) ++ b)) (by rw [List.length_append, List.length_append]; omega) a.length (by rw [List.length_append]; omega)
      rw [set_back l a b hs] at hd
      rw [AttrBytes_ok l (by omega) (fun x hx => (he x hx).2), Option.bind_some]
      dsimp only
      obtain ⟨e, hee⟩ : ∃ e, e = enc 2 l.length ++ attrsB l := ⟨_, rfl⟩
      rw [← hee] at hd hel ⊢
      rw [app_ok (by simp; omega), Option.bind_some, List.nil_append, app_ok (by omega), Option.bind_some, app_ok (by rw [List.length_append]; omega), Option.bind_some, List.append_assoc, hd, Option.bind_some, SameAttrs_eq, live17, wI (by omega)]
      unfold law17_num
      simp
  · rw [if_pos rfl]
    rfl
end Go.Proofs.Ytgoedcjjckdlpaa.F
