/- Inodes in plain words: what bytes would be; the other decoder. -/
import Derived.Test.YtebbaokcgnjfiaaLAInode3
import Derived.Test.YtebbaokcgnjfiaaLAReader
set_option linter.unusedVariables false
set_option linter.unusedSimpArgs false
namespace Go.Proofs.Ytebbaokcgnjfiaa.F
open Go Go.RowKit Go.Proofs.Ytebbaokcgnjfiaa.K

/-- The number of w bytes at a place. -/
def rd (l : List UInt8) (p w : Nat) : Nat := le ((l.drop p).take w)
theorem rd_lt (l : List UInt8) (p w : Nat) : rd l p w < 256 ^ w := le_take_lt _ _
theorem rd_drop (l : List UInt8) (p q w : Nat) : rd (l.drop p) q w = rd l (p + q) w := by unfold rd; rw [List.drop_drop]
theorem rd_app (l x : List UInt8) (p w : Nat) (h : p + w ≤ l.length) : rd (l ++ x) p w = rd l p w := by
  unfold rd
  rw [List.drop_append_of_le_length (by omega), List.take_append_of_le_length (by rw [List.length_drop]; omega)]
theorem pre_iff {w k : Nat} {x l : List UInt8} (hk : k < 256 ^ w) : enc w k ++ x <+: l ↔ w ≤ l.length ∧ rd l 0 w = k ∧ x <+: l.drop w := by
  unfold rd
  rw [List.drop_zero]
  constructor
  · rintro ⟨t, rfl⟩
    rw [List.append_assoc]
    refine ⟨by rw [List.length_append, enc_length]; omega, ?_, ?_⟩
    · rw [List.take_append_of_le_length (by rw [enc_length]; omega), List.take_of_length_le (by rw [enc_length]; omega), le_enc, Nat.mod_eq_of_lt hk]
    · rw [List.drop_append_of_le_length (by rw [enc_length]; omega), List.drop_of_length_le (by rw [enc_length]; omega), List.nil_append]
      exact List.prefix_append _ _
  · rintro ⟨h1, rfl, h2⟩
    have : enc w (le (l.take w)) = l.take w := by
      have h3 := enc_le (l.take w)
      rwa [List.length_take, Nat.min_eq_left h1] at h3
    rw [this]
    have h4 : l.take w ++ l.drop w = l := List.take_append_drop w l
    rw (occs := .pos [2]) [← h4]
    exact (List.prefix_append_right_inj _).2 h2
theorem pre_iff1 {w k : Nat} {l : List UInt8} (hk : k < 256 ^ w) : enc w k <+: l ↔ w ≤ l.length ∧ rd l 0 w = k := by
  have := pre_iff (x := []) (l := l) hk
  rw [List.append_nil] at this
  rw [this]
  simp
def rdws : Nat → List UInt8 → List Int
  | 0, _ => []
  | k + 1, l => (rd l 0 4 : Int) :: rdws k (l.drop 4)
theorem rdws_len : ∀ k l, (rdws k l).length = k
  | 0, _ => rfl
  | k + 1, l => by rw [rdws, List.length_cons, rdws_len k]
theorem rdws_snoc : ∀ k l, rdws (k + 1) l = rdws k l ++ [(rd l (4 * k) 4 : Int)]
  | 0, l => rfl
  | k + 1, l => by
    rw [rdws, rdws_snoc k, rdws, rd_drop, List.cons_append, show 4 + 4 * k = 4 * (k + 1) by omega]
theorem words_pre : ∀ (ws : List Int) (l : List UInt8), okW ws = true → (wordsB ws <+: l ↔ 4 * ws.length ≤ l.length ∧ rdws ws.length l = ws)
  | [], l, _ => by simp [wordsB, rdws]
  | x :: ws, l, h => by
    have hx : (0 ≤ x ∧ x ≤ 4294967295) ∧ okW ws = true := by
      have : okW (x :: ws) = (decide (0 ≤ x ∧ x ≤ 4294967295) && okW ws) := rfl
      rw [this] at h
      simpa using h
    have e : wordsB (x :: ws) = enc 4 x.toNat ++ wordsB ws := by unfold wordsB; rw [List.flatMap_cons]
    have hr := rd_lt l 0 4
    rw [e, pre_iff (by omega), words_pre ws _ hx.2, List.length_drop, List.length_cons, rdws, List.cons.injEq]
    constructor
    · rintro ⟨h1, h2, h3, h4⟩
      exact ⟨by omega, by omega, h4⟩
    · rintro ⟨h1, h2, h3⟩
      exact ⟨by omega, by omega, by omega, h3⟩
theorem rdws_ok : ∀ k l, okW (rdws k l) = true
  | 0, _ => rfl
  | k + 1, l => by
    have h := rd_lt l 0 4
    have : okW (rdws (k + 1) l) = (decide (0 ≤ (rd l 0 4 : Int) ∧ (rd l 0 4 : Int) ≤ 4294967295) && okW (rdws k (l.drop 4))) := rfl
    rw [this, rdws_ok k, decide_eq_true (by omega)]
    rfl
theorem text_pre {t l : List UInt8} : t <+: l ↔ l.take t.length = t := by
  rw [List.prefix_iff_eq_take]
  exact eq_comm
/-- What stands ahead. -/
def headP (n : TApiInode) (l : List UInt8) : Prop := 20 ≤ l.length ∧ (rd l 0 2 : Int) = n.Kind ∧ (rd l 2 2 : Int) = n.Mode ∧ (rd l 4 2 : Int) = n.Uid ∧ (rd l 6 2 : Int) = n.Gid ∧ (rd l 8 4 : Int) = n.Time ∧ (rd l 12 4 : Int) = n.Links ∧ rd l 16 4 = v4 n.Attrs
def restP (n : TApiInode) (l : List UInt8) : Prop :=
  if n.Kind = 1 then 48 ≤ l.length ∧ (rd l 20 8 : Int) = n.Size ∧ (rd l 28 4 : Int) = n.Start ∧ rd l 32 4 = v4 n.Frag ∧ (rd l 36 4 : Int) = n.Off ∧ (rd l 40 4 : Int) = n.Tail ∧ rd l 44 4 = n.Words.length ∧ 48 + 4 * n.Words.length ≤ l.length ∧ rdws n.Words.length (l.drop 48) = n.Words
  else if n.Kind = 2 then 32 ≤ l.length ∧ (rd l 20 4 : Int) = n.Dir ∧ (rd l 24 4 : Int) = n.Bytes ∧ (rd l 28 4 : Int) = n.Parent
  else if n.Kind = 3 then 22 + n.Target.length ≤ l.length ∧ rd l 20 2 = n.Target.length ∧ (l.drop 22).take n.Target.length = n.Target
  else 24 ≤ l.length ∧ (rd l 20 4 : Int) = n.Dev
theorem toN {a : Nat} {x : Int} (h : 0 ≤ x) : a = x.toNat ↔ (a : Int) = x := by omega
theorem bytes_iff {n : TApiInode} (hk : 1 ≤ n.Kind ∧ n.Kind ≤ 5) (hg : Good n) (l : List UInt8) : bytesI n <+: l ↔ headP n l ∧ restP n l := by
  obtain ⟨⟨hm, ht, hu, hgi, hl, ha⟩, hF, _, hD, _, hT, _, hV, _⟩ := hg
  have hv4 : v4 n.Attrs < 256 ^ 4 := by unfold v4; split <;> omega
  unfold bytesI headB headP
  simp only [List.append_assoc]
  rw [pre_iff (by omega), pre_iff (by omega), pre_iff (by omega), pre_iff (by omega), pre_iff (by omega), pre_iff (by omega), pre_iff hv4]
  simp only [rd_drop, List.drop_drop, List.length_drop, Nat.reduceAdd, Nat.add_zero]
  rw [toN (by omega), toN (by omega), toN (by omega), toN (by omega), toN (by omega), toN (by omega)]
  have key : 20 ≤ l.length → (restB n <+: l.drop 20 ↔ restP n l) := by
    intro h20
    unfold restB restP fileB
    by_cases h1 : n.Kind = 1
    · obtain ⟨f1, f2, f3, f4, f5, f6, f7, f8, f9⟩ := hF h1
      have hv5 : v4 n.Frag < 256 ^ 4 := by unfold v4; split <;> omega
      rw [if_pos h1, if_pos h1]
      simp only [List.append_assoc]
      rw [pre_iff (by omega), pre_iff (by omega), pre_iff hv5, pre_iff (by omega), pre_iff (by omega), pre_iff (by omega), words_pre _ _ f9]
      simp only [rd_drop, List.drop_drop, List.length_drop, Nat.reduceAdd, Nat.add_zero]
      rw [toN (by omega), toN (by omega), toN (by omega), toN (by omega)]
      constructor
      · rintro ⟨a1, a2, a3, a4, a5, a6, a7, a8, a9, b1, b2, b3, b4, b5⟩
        exact ⟨by omega, a2, a4, a6, a8, b1, b3, by omega, b5⟩
      · rintro ⟨a1, a2, a3, a4, a5, a6, a7, a8, a9⟩
        exact ⟨by omega, a2, by omega, a3, by omega, a4, by omega, a5, by omega, a6, by omega, a7, by omega, a9⟩
    · rw [if_neg h1, if_neg h1]
      by_cases h2 : n.Kind = 2
      · obtain ⟨f1, f2, f3⟩ := hD h2
        rw [if_pos h2, if_pos h2]
        simp only [List.append_assoc]
        rw [pre_iff (by omega), pre_iff (by omega), pre_iff1 (by omega)]
        simp only [rd_drop, List.drop_drop, List.length_drop, Nat.reduceAdd, Nat.add_zero]
        rw [toN (by omega), toN (by omega), toN (by omega)]
        constructor
        · rintro ⟨a1, a2, a3, a4, a5, a6⟩
          exact ⟨by omega, a2, a4, a6⟩
        · rintro ⟨a1, a2, a3, a4⟩
          exact ⟨by omega, a2, by omega, a3, by omega, a4⟩
      · rw [if_neg h2, if_neg h2]
        by_cases h3 : n.Kind = 3
        · obtain ⟨⟨f1, f2⟩, f3⟩ := hT h3
          rw [if_pos h3, if_pos h3, pre_iff (by omega), text_pre]
          simp only [rd_drop, List.drop_drop, List.length_drop, Nat.reduceAdd, Nat.add_zero]
          constructor
          · rintro ⟨a1, a2, a3⟩
            refine ⟨?_, a2, a3⟩
            have := congrArg List.length a3
            rw [List.length_take, List.length_drop] at this
            omega
          · rintro ⟨a1, a2, a3⟩
            exact ⟨by omega, a2, a3⟩
        · have f1 := hV (by omega)
          rw [if_neg h3, if_neg h3, pre_iff1 (by omega)]
          simp only [rd_drop, List.drop_drop, List.length_drop, Nat.reduceAdd, Nat.add_zero]
          rw [toN (by omega)]
          constructor
          · rintro ⟨a1, a2⟩
            exact ⟨by omega, a2⟩
          · rintro ⟨a1, a2⟩
            exact ⟨by omega, a2⟩
  constructor
  · rintro ⟨a1, a2, a3, a4, a5, a6, a7, a8, a9, b1, b2, b3, b4, b5, b6⟩
    exact ⟨⟨by omega, a2, a4, a6, a8, b1, b3, b5⟩, (key (by omega)).1 b6⟩
  · rintro ⟨⟨a1, a2, a3, a4, a5, a6, a7, a8⟩, a9⟩
    exact ⟨by omega, a2, by omega, a3, by omega, a4, by omega, a5, by omega, a6, by omega, a7, by omega, a8, (key a1).2 a9⟩

theorem Load_ok {b : List UInt8} {p : Int} {w : Nat} (h : 0 ≤ p ∧ p + w ≤ b.length) (hb : b.length ≤ 100000000000) (hw : w ≤ 8) : ∃ v, ref01_Load b p (w : Int) = some v ∧ v.toNat = rd b p.toNat w := by
  obtain ⟨a, rfl⟩ : ∃ a : Nat, p = (a : Int) := ⟨p.toNat, by omega⟩
  rw [Int.toNat_natCast]
  have key : ∀ k (v : UInt64), k ≤ w → v.toNat = le ((b.drop (a + k)).take (w - k)) → ∃ v', loopO (fun s => ref01_Load_l1 b (a : Int) s.1 s.2) (v, (k : Int) - 1) = some v' ∧ v'.toNat = rd b a w := by
    intro k
    induction k with
    | zero =>
      intro v h1 h2
      refine ⟨v, loop_end ?_, h2⟩
      show ref01_Load_l1 b (a : Int) v (((0 : Nat) : Int) - 1) = _
      unfold ref01_Load_l1
      rw [decide_eq_false (by omega)]
      rfl
    | succ k ih =>
      intro v h1 h2
      have hlt : a + k < b.length := by omega
      have hx := List.getElem?_eq_getElem hlt
      have hv := le_take_lt (b.drop (a + (k + 1))) (w - (k + 1))
      have hp : 256 ^ (w - (k + 1)) ≤ 72057594037927936 := p256 _ (by omega)
      have hbl := (b[a + k]).toNat_lt
      have hn : (v * 256 + (b[a + k]).toUInt64).toNat = le ((b.drop (a + k)).take (w - k)) := by
        rw [List.drop_eq_getElem_cons hlt, show w - k = (w - (k + 1)) + 1 by omega, List.take_succ_cons, le, show a + k + 1 = a + (k + 1) by omega, ← h2, UInt64.toNat_add, UInt64.toNat_mul, UInt8.toNat_toUInt64]
        rw [← h2] at hv
        show (v.toNat * 256 % 2 ^ 64 + _) % 2 ^ 64 = _
        omega
      obtain ⟨v', h3, h4⟩ := ih _ (by omega) hn
      refine ⟨v', (loop_next ?_).trans h3, h4⟩
      show ref01_Load_l1 b (a : Int) v (((k + 1 : Nat) : Int) - 1) = _
      unfold ref01_Load_l1
      rw [decide_eq_true (by omega), show ((k + 1 : Nat) : Int) - 1 = (k : Int) by omega, wI (by omega), wI (by omega), show (a : Int) + (k : Int) = ((a + k : Nat) : Int) by omega, idx_ok hx]
      rfl
  obtain ⟨v, h1, h2⟩ := key w 0 (by omega) (by simp [le])
  refine ⟨v, ?_, h2⟩
  unfold ref01_Load
  rw [wI (by omega), h1]
  rfl
def mns (k : Nat) : Int := if k = 4294967295 then -1 else k
theorem minus_ok {b : List UInt8} {p : Int} (h : 0 ≤ p ∧ p + 4 ≤ b.length) (hb : b.length ≤ 100000000000) : ref15_minus b p = some (mns (rd b p.toNat 4)) := by
  obtain ⟨v, h1, h2⟩ := Load_ok (w := 4) h hb (by decide)
  have h3 := rd_lt b p.toNat 4
  unfold ref15_minus mns
  rw [show ref01_Load b p 4 = some v from h1]
  simp only [Option.bind_some]
  rw [h2, wI (by omega)]
  by_cases h4 : rd b p.toNat 4 = 4294967295
  · rw [h4]; rfl
  · rw [if_neg h4, show (((rd b p.toNat 4 : Nat) : Int) == 4294967295) = false from beq_eq_false_iff_ne.2 (by omega)]
    rfl
end Go.Proofs.Ytebbaokcgnjfiaa.F
