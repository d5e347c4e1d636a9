/- Names of folders in plain words: the document's bytes; decoding. -/
import Derived.Test.YtebbaokcgnjfiaaLDDirent2
import Derived.Test.YtebbaokcgnjfiaaLDRd
set_option linter.unusedVariables false
set_option linter.unusedSimpArgs false
namespace Go.Proofs.Ytebbaokcgnjfiaa.F
open Go Go.RowKit Go.Proofs.Ytebbaokcgnjfiaa.K

theorem runF_succ (x0 : Int) (f : Nat) (k : TApiKid) (r : List TApiKid) : runF x0 (f + 1) (k :: r) = if k.Ino ≥ x0 then 1 + runF x0 f r else 0 := rfl
theorem enc_one (n : Nat) : [UInt8.ofInt (n : Int)] = enc 1 n := by
  have : UInt8.ofInt (n : Int) = UInt8.ofNat n := by
    apply UInt8.toNat_inj.1
    have h := q8_wrap (n : Int)
    have h2 := wrap_byte n
    rw [h] at h2
    exact Int.ofNat.inj h2
  rw [this]
  rfl
theorem refrow_loop (l : List TApiKid) (a : Nat) (x : TApiKid) (hx : l[a]? = some x) (hl : l.length ≤ 1000000) (h : ∀ k ∈ l, OkK k) : ∀ f n (row : List UInt8), 256 - n = f → n ≤ 256 → a + n ≤ l.length → row.length ≤ 300 * n →
    loopO (fun s => ref16_Bytes_l2 l (a : Int) s.1 s.2) (n, row) = some (n + runF x.Ino f (l.drop (a + n)), row ++ ((l.drop (a + n)).take (runF x.Ino f (l.drop (a + n)))).flatMap (kidB x.Ino)) := by
  intro f
  induction f with
  | zero =>
    intro n row h1 h2 h3 h4
    refine (loop_end (r := (n, row)) ?_).trans (by simp [runF])
    show ref16_Bytes_l2 l (a : Int) n row = _
    unfold ref16_Bytes_l2
    rw [decide_eq_false (show ¬ (n : Int) < 256 by omega)]
    cases decide (IntKind.i64.wrap ((a : Int) + (n : Int)) < (l.length : Int)) <;> rfl
  | succ f ih =>
    intro n row h1 h2 h3 h4
    have hw : IntKind.i64.wrap ((a : Int) + (n : Int)) = ((a + n : Nat) : Int) := wI (by omega)
    by_cases hlt : a + n < l.length
    · have hk := List.getElem?_eq_getElem hlt
      have o1 := h _ (List.mem_of_getElem? hk)
      have o0 := h _ (List.mem_of_getElem? hx)
      rw [List.drop_eq_getElem_cons hlt, runF_succ]
      by_cases hg : l[a + n].Ino ≥ x.Ino
      · have g1 := o1.hi
        have g2 := o0.lo
        have g3 := o1.len
        have hb : ref16_Bytes_l2 l (a : Int) n row = some (.inl (n + 1, row ++ kidB x.Ino l[a + n])) := by
          unfold ref16_Bytes_l2
          rw [hw, decide_eq_true (by omega), decide_eq_true (show (n : Int) < 256 by omega), idx_ok hk, idx_ok hx]
          simp only [cond_true, Option.bind_some]
          rw [decide_eq_true hg, wI (by omega), show ref01_Store (UInt64.ofInt (l[a + n].Ino - x.Ino)) 2 = _ from refstoreI 2 (by decide) (by omega)]
          simp only [cond_true, Option.bind_some]
          rw [app_ok (by rw [enc_length]; omega)]
          simp only [Option.bind_some]
          rw [app_ok (by simp only [List.length_append, enc_length, List.length_singleton]; omega), enc_one]
          simp only [Option.bind_some]
          rw [app_ok (by simp only [List.length_append, enc_length]; omega)]
          unfold kidB
          simp
        have hkl := kidB_len (x0 := x.Ino) o1
        rw [loop_next (s' := (n + 1, row ++ kidB x.Ino l[a + n])) hb, ih (n + 1) _ (by omega) (by omega) (by omega) (by rw [List.length_append]; omega), if_pos hg, show a + (n + 1) = a + n + 1 by omega]
        rw [Nat.add_comm 1 (runF x.Ino f (l.drop (a + n + 1))), List.take_succ_cons, List.flatMap_cons, List.append_assoc]
        congr 2
        omega
      · have hb : ref16_Bytes_l2 l (a : Int) n row = some (.inr (n, row)) := by
          unfold ref16_Bytes_l2
          rw [hw, decide_eq_true (by omega), decide_eq_true (show (n : Int) < 256 by omega), idx_ok hk, idx_ok hx]
          simp only [cond_true, Option.bind_some]
          rw [decide_eq_false hg]
          rfl
        rw [loop_end (r := (n, row)) hb, if_neg hg]
        simp
    · have hb : ref16_Bytes_l2 l (a : Int) n row = some (.inr (n, row)) := by
        unfold ref16_Bytes_l2
        rw [hw, decide_eq_false (by omega)]
        rfl
      rw [loop_end (r := (n, row)) hb, List.drop_of_length_le (by omega)]
      simp [runF]
theorem refrow_eq {l : List TApiKid} {a : Nat} (ha : a < l.length) (hl : l.length ≤ 1000000) (h : ∀ k ∈ l, OkK k) :
    loopO (fun s => ref16_Bytes_l2 l (a : Int) s.1 s.2) (0, []) = some (runL (l.drop a), ((l.drop a).take (runL (l.drop a))).flatMap (kidB l[a].Ino)) := by
  have hx := List.getElem?_eq_getElem ha
  rw [refrow_loop l a l[a] hx hl h 256 0 [] (by omega) (by omega) (by omega) (by simp), Nat.add_zero, List.drop_eq_getElem_cons ha, runF_succ, if_pos (Int.le_refl _), Nat.zero_add]
  rfl
theorem refbytes_loop (l : List TApiKid) (hl : l.length ≤ 1000000) (h : ∀ k ∈ l, OkK k) : ∀ f a (b : List UInt8), l.length - a ≤ f → a ≤ l.length → b.length + 300 * (l.length - a) ≤ 9000000000 →
    loopO (fun s => ref16_Bytes_l1 l s.1 s.2) (b, (a : Int)) = some (b ++ (rowsF f (l.drop a)).flatMap rowB) := by
  intro f
  induction f with
  | zero =>
    intro a b h1 h2 h3
    refine (loop_end (r := b) ?_).trans (by simp [rowsF])
    show ref16_Bytes_l1 l b (a : Int) = _
    unfold ref16_Bytes_l1
    rw [decide_eq_false (by omega)]
    rfl
  | succ f ih =>
    intro a b h1 h2 h3
    by_cases ha : a < l.length
    · have hx := List.getElem?_eq_getElem ha
      have hne : l.drop a ≠ [] := List.length_pos_iff.1 (by rw [List.length_drop]; omega)
      have hok : ∀ k ∈ l.drop a, OkK k := fun k hk => h k (List.mem_of_mem_drop hk)
      obtain ⟨g1, g2, g3⟩ := run_row hne hok
      have hp := runL_pos hne
      have hle := runL_le (l.drop a)
      rw [List.length_drop] at hle
      have hr : rowsF (f + 1) (l.drop a) = (l.drop a).take (runL (l.drop a)) :: rowsF f ((l.drop a).drop (runL (l.drop a))) := by
        rw [List.drop_eq_getElem_cons ha]; rfl
      have hh : (((l.drop a).take (runL (l.drop a))).headD ⟨[], 0⟩) = l[a] := by
        rw [List.drop_eq_getElem_cons ha]
        have : runL (l[a] :: l.drop (a + 1)) = runF l[a].Ino 255 (l.drop (a + 1)) + 1 := Nat.add_comm _ _
        rw [this, List.take_succ_cons]
        rfl
      have hrb : rowB ((l.drop a).take (runL (l.drop a))) = enc 2 (runL (l.drop a)) ++ (enc 4 l[a].Ino.toNat ++ ((l.drop a).take (runL (l.drop a))).flatMap (kidB l[a].Ino)) := by
        unfold rowB
        rw [hh, g2]
      have hbl := rowB_len (fun k hk => (g3 k hk).1)
      have o0 := h _ (List.mem_of_getElem? hx)
      have o1 := o0.lo
      have o2 := o0.hi
      have hb : ref16_Bytes_l1 l b (a : Int) = some (.inl (b ++ rowB ((l.drop a).take (runL (l.drop a))), ((a + runL (l.drop a) : Nat) : Int))) := by
        rw [hrb] at hbl ⊢
        simp only [List.length_append, enc_length] at hbl
        unfold ref16_Bytes_l1
        rw [decide_eq_true (by omega), refrow_eq ha hl h]
        simp only [cond_true, Option.bind_some]
        rw [show ref01_Store (UInt64.ofInt (runL (l.drop a) : Int)) 2 = _ from refstoreI 2 (by decide) (by omega), idx_ok hx]
        simp only [Option.bind_some, Int.toNat_natCast]
        rw [app_ok (by rw [enc_length]; omega), show ref01_Store (UInt64.ofInt l[a].Ino) 4 = _ from refstoreI 4 (by decide) (by omega)]
        simp only [Option.bind_some]
        rw [app_ok (by simp only [List.length_append, enc_length]; omega)]
        simp only [Option.bind_some]
        rw [app_ok (by simp only [List.length_append, enc_length]; omega), wI (by omega)]
        simp
      rw [loop_next (s' := (b ++ rowB ((l.drop a).take (runL (l.drop a))), ((a + runL (l.drop a) : Nat) : Int))) hb, ih (a + runL (l.drop a)) _ (by omega) (by omega) (by rw [List.length_append]; omega), hr, List.flatMap_cons, List.drop_drop, List.append_assoc]
    · have hb : ref16_Bytes_l1 l b (a : Int) = some (.inr b) := by
        unfold ref16_Bytes_l1
        rw [decide_eq_false (by omega)]
        rfl
      rw [loop_end (r := b) hb, List.drop_of_length_le (by omega)]
      simp [rowsF]
theorem refBytes_ok {l : List TApiKid} (h : rightF [] l = true) (hl : l.length ≤ 1000000) : ref16_Bytes l = some (encB l) := by
  unfold ref16_Bytes
  have := refbytes_loop l hl (right_ok l _ h) l.length 0 [] (by omega) (by omega) (by simp only [List.length_nil]; omega)
  rw [show (([], ((0 : Nat) : Int)) : List UInt8 × Int) = ([], 0) from rfl] at this
  rw [this]
  rfl

/-! ### What bytes tell -/
def kidsP (b : List UInt8) (first : Int) : Nat → Nat → List TApiKid → Option (List TApiKid × Nat)
  | 0, a, acc => some (acc, a)
  | n + 1, a, acc => if a + 3 ≤ b.length ∧ a + 3 + rd b (a + 2) 1 ≤ b.length then kidsP b first n (a + 3 + rd b (a + 2) 1) (acc ++ [⟨(b.drop (a + 3)).take (rd b (a + 2) 1), first + rd b a 2⟩]) else none
theorem kidsP_some (b : List UInt8) (first : Int) : ∀ (n a : Nat) (acc acc' : List TApiKid) (a' : Nat), kidsP b first n a acc = some (acc', a') → a ≤ a' ∧ (a ≤ b.length → a' ≤ b.length) ∧ acc'.length + a ≤ acc.length + a'
  | 0, a, acc, acc', a', h => by
    unfold kidsP at h
    injection h with h; injection h with h1 h2; subst h1; subst h2
    exact ⟨Nat.le_refl _, id, Nat.le_refl _⟩
  | n + 1, a, acc, acc', a', h => by
    unfold kidsP at h
    split at h
    · rename_i hc
      have := kidsP_some b first n _ _ _ _ h
      rw [List.length_append, List.length_singleton] at this
      exact ⟨by omega, fun _ => this.2.1 hc.2, by omega⟩
    · cases h
def rowsP (b : List UInt8) : Nat → Nat → List TApiKid → Option (List TApiKid)
  | 0, _, acc => some acc
  | f + 1, a, acc => if a < b.length then (if a + 6 ≤ b.length then (match kidsP b (rd b (a + 2) 4) (rd b a 2) (a + 6) acc with
      | some y => rowsP b f y.2 y.1
      | none => none) else none) else some acc
theorem rowsP_len (b : List UInt8) : ∀ (f a : Nat) (acc l : List TApiKid), acc.length ≤ a → a ≤ b.length → rowsP b f a acc = some l → l.length ≤ b.length
  | 0, a, acc, l, h1, h2, h => by
    injection h with h; subst h; omega
  | f + 1, a, acc, l, h1, h2, h => by
    unfold rowsP at h
    split at h
    · split at h
      · rename_i h6
        cases hk : kidsP b (rd b (a + 2) 4) (rd b a 2) (a + 6) acc with
        | none => rw [hk] at h; cases h
        | some y =>
          obtain ⟨acc', a'⟩ := y
          rw [hk] at h
          have := kidsP_some _ _ _ _ _ _ _ hk
          exact rowsP_len b f a' acc' l (by omega) (this.2.1 h6) h
      · cases h
    · injection h with h; subst h; omega
/-- What a decoder answers. -/
noncomputable def decB (b : List UInt8) : List TApiKid × Int :=
  match rowsP b b.length 0 [] with
  | some l => if rightF [] l = true ∧ encB l = b then (l, 0) else ([], 6)
  | none => ([], 6)

/-! the program's decoder -/
theorem kid_prog {b : List UInt8} (hb : b.length ≤ 10000000) {r : TFieldReader} {a : Nat} (h : At b r a) :
    ∃ v1 r1 v2 r2 y r3, field_Reader_Num r 2 = some (v1, r1) ∧ field_Reader_Num r1 1 = some (v2, r2) ∧ field_Reader_Bytes r2 (IntKind.i64.wrap (v2.toNat : Int)) = some (y, r3) ∧ Rd b r3 ∧
      (r3.f_e = 0 ↔ r.f_e = 0 ∧ a + 3 ≤ b.length ∧ a + 3 + rd b (a + 2) 1 ≤ b.length) ∧ (r3.f_e = 0 → v1.toNat = rd b a 2 ∧ y = (b.drop (a + 3)).take (rd b (a + 2) 1) ∧ r3.f_at = ((a + 3 + rd b (a + 2) 1 : Nat) : Int)) ∧ v1.toNat < 65536 := by
  obtain ⟨v1, r1, a1, b1, c1, d1, e1, f1⟩ := Num_at hb h (w := 2) (by decide)
  obtain ⟨v2, r2, a2, b2, c2, d2, e2, f2⟩ := Num_at hb b1 (w := 1) (by decide)
  obtain ⟨y, r3, g1, g2, g3, g4, g5, g6, g7⟩ := take_any (by omega) b2.rd (n := (v2.toNat : Int)) (by omega)
  have hB : field_Reader_Bytes r2 (IntKind.i64.wrap (v2.toNat : Int)) = some (y, r3) := by
    unfold field_Reader_Bytes
    rw [wI (by omega), g1]
    simp only [Option.bind_some]
    rw [copied_ok (by omega)]
    rfl
  refine ⟨v1, r1, v2, r2, y, r3, a1, a2, hB, g2, ?_, ?_, f1⟩
  · rw [g3]
    constructor
    · rintro ⟨k1, k2⟩
      have k3 := c2.1 k1
      have k4 := c1.1 k3.1
      have k5 := (b2.at_ k1).1
      have k6 : v2.toNat = rd b (a + 2) 1 := d2 k1
      exact ⟨k4.1, by omega, by omega⟩
    · rintro ⟨k1, k2, k3⟩
      have k4 : r1.f_e = 0 := c1.2 ⟨k1, by omega⟩
      have k5 : r2.f_e = 0 := c2.2 ⟨k4, by omega⟩
      have k6 : v2.toNat = rd b (a + 2) 1 := d2 k5
      have k7 := (b2.at_ k5).1
      exact ⟨k5, by omega⟩
  · intro k0
    have k1 := (g3.1 k0).1
    have k3 := c2.1 k1
    have k5 := (b2.at_ k1).1
    have k6 : v2.toNat = rd b (a + 2) 1 := d2 k1
    obtain ⟨k7, k8⟩ := g4 k0
    refine ⟨d1 k3.1, ?_, by omega⟩
    rw [k8, k5, Int.toNat_natCast, Int.toNat_natCast, k6]
theorem kids_prog {b : List UInt8} (hb : b.length ≤ 1000000) (num num1 : UInt64 × TFieldReader) (hn : num.1.toNat < 65536) (hf : num1.1.toNat < 4294967296) : ∀ k t a (acc : List TApiKid), num.1.toNat - t = k → t ≤ num.1.toNat → a ≤ b.length → acc.length ≤ a →
    loopO (fun s => dirent_Decode_l2 num num1 s.1 s.2.1 s.2.2.1 s.2.2.2.1 s.2.2.2.2) (b, (a : Int), (0 : Int), acc, UInt64.ofNat t) = some (match kidsP b (num1.1.toNat : Int) k a acc with | some y => .inl (b, (y.2 : Int), 0, y.1) | none => .inr (.inr (.inr ([], 6)))) := by
  intro k
  induction k with
  | zero =>
    intro t a acc h1 h2 h3 h4
    have : t = num.1.toNat := by omega
    refine (loop_end (r := .inl (b, (a : Int), 0, acc)) ?_).trans rfl
    show dirent_Decode_l2 num num1 b (a : Int) 0 acc (UInt64.ofNat t) = _
    unfold dirent_Decode_l2
    rw [decide_eq_false (by rw [UInt64.toNat_ofNat']; omega)]
    rfl
  | succ k ih =>
    intro t a acc h1 h2 h3 h4
    have ht : (UInt64.ofNat t).toNat = t := by rw [UInt64.toNat_ofNat']; omega
    have hat : At b ⟨b, (a : Int), 0⟩ a := ⟨⟨rfl, by dsimp only; omega, by dsimp only; omega⟩, fun _ => ⟨rfl, h3⟩⟩
    obtain ⟨v1, r1, v2, r2, y, r3, g1, g2, g3, g4, g5, g6, g7⟩ := kid_prog (by omega) hat
    unfold kidsP
    by_cases hc : a + 3 ≤ b.length ∧ a + 3 + rd b (a + 2) 1 ≤ b.length
    · have he : r3.f_e = 0 := g5.2 ⟨rfl, hc.1, hc.2⟩
      obtain ⟨k1, k2, k3⟩ := g6 he
      have hsum : ((num1.1 + v1).toNat : Int) = (num1.1.toNat : Int) + (rd b a 2 : Int) := by
        rw [UInt64.toNat_add, k1]
        rw [k1] at g7
        show (((num1.1.toNat + rd b a 2) % 2 ^ 64 : Nat) : Int) = _
        omega
      rw [if_pos hc]
      have hb2 : dirent_Decode_l2 num num1 b (a : Int) 0 acc (UInt64.ofNat t) = some (.inl (b, ((a + 3 + rd b (a + 2) 1 : Nat) : Int), 0, acc ++ [⟨(b.drop (a + 3)).take (rd b (a + 2) 1), (num1.1.toNat : Int) + rd b a 2⟩], UInt64.ofNat (t + 1))) := by
        unfold dirent_Decode_l2
        rw [ht, decide_eq_true (by omega), g1]
        simp only [cond_true, Option.bind_some]
        rw [g2]
        simp only [Option.bind_some]
        rw [g3]
        simp only [Option.bind_some, field_Reader_Err]
        have hr := rd_lt b a 2
        rw [show (r3.f_e != 0) = false from bne_eq_false_iff_eq.2 he, cond_false, app_ok (by rw [List.length_singleton]; omega), hsum, wI (by omega), g4.b, k3, he, k2]
        have h4' : UInt64.ofNat t + 1 = UInt64.ofNat (t + 1) := by
          apply UInt64.toNat_inj.1
          rw [UInt64.toNat_add, ht, UInt64.toNat_ofNat']
          show (t + 1) % 2 ^ 64 = _
          omega
        rw [h4']
        rfl
      rw [loop_next (s' := (b, ((a + 3 + rd b (a + 2) 1 : Nat) : Int), 0, acc ++ [⟨(b.drop (a + 3)).take (rd b (a + 2) 1), (num1.1.toNat : Int) + rd b a 2⟩], UInt64.ofNat (t + 1))) hb2]
      exact ih (t + 1) (a + 3 + rd b (a + 2) 1) _ (by omega) (by omega) hc.2 (by rw [List.length_append, List.length_singleton]; omega)
    · have he : r3.f_e ≠ 0 := fun e => hc (g5.1 e).2
      rw [if_neg hc]
      have hb2 : dirent_Decode_l2 num num1 b (a : Int) 0 acc (UInt64.ofNat t) = some (.inr (.inr (.inr (.inr ([], 6))))) := by
        unfold dirent_Decode_l2
        rw [ht, decide_eq_true (by omega), g1]
        simp only [cond_true, Option.bind_some]
        rw [g2]
        simp only [Option.bind_some]
        rw [g3]
        simp only [Option.bind_some, field_Reader_Err]
        rw [show (r3.f_e != 0) = true from bne_iff_ne.2 he, cond_true]
      rw [loop_end (r := .inr (.inr (.inr ([], 6)))) hb2]
theorem rows_prog {b : List UInt8} (hb : b.length ≤ 1000000) : ∀ f a (acc : List TApiKid), b.length - a ≤ f → a ≤ b.length → acc.length ≤ a →
    loopO (fun s => dirent_Decode_l1 s.1 s.2.1 s.2.2.1 s.2.2.2) (b, (a : Int), (0 : Int), acc) = some (match rowsP b f a acc with | some l => .inl l | none => .inr ([], 6)) := by
  intro f
  induction f with
  | zero =>
    intro a acc h1 h2 h3
    refine (loop_end (r := .inl acc) ?_).trans rfl
    show dirent_Decode_l1 b (a : Int) 0 acc = _
    unfold dirent_Decode_l1 field_Reader_Left
    simp only [Option.bind_some]
    rw [wI (by omega), decide_eq_false (by omega)]
    rfl
  | succ f ih =>
    intro a acc h1 h2 h3
    unfold rowsP
    by_cases hlt : a < b.length
    · rw [if_pos hlt]
      have hat : At b ⟨b, (a : Int), 0⟩ a := ⟨⟨rfl, by dsimp only; omega, by dsimp only; omega⟩, fun _ => ⟨rfl, h2⟩⟩
      obtain ⟨v1, r1, a1, b1, c1, d1, e1, f1⟩ := Num_at (by omega : b.length ≤ 10000000) hat (w := 2) (by decide)
      obtain ⟨v2, r2, a2, b2, c2, d2, e2, f2⟩ := Num_at (by omega : b.length ≤ 10000000) b1 (w := 4) (by decide)
      have hst : dirent_Decode_l1 b (a : Int) 0 acc = bnd (loopO (fun s => dirent_Decode_l2 (v1, r1) (v2, r2) s.1 s.2.1 s.2.2.1 s.2.2.2.1 s.2.2.2.2) (r2.f_b, r2.f_at, r2.f_e, acc, (0 : UInt64))) (fun (b2, at_1, e_1, l_1) => cond (e_1 != 0) (some (.inr (.inr ([], 6)))) (some (.inl (b2, at_1, e_1, l_1)))) := by
        unfold dirent_Decode_l1 field_Reader_Left
        simp only [Option.bind_some]
        rw [wI (by omega), decide_eq_true (by omega), cond_true, show field_Reader_Num ⟨b, (a : Int), 0⟩ 2 = _ from a1]
        simp only [Option.bind_some]
        rw [show field_Reader_Num r1 4 = _ from a2]
        rfl
      by_cases h6 : a + 6 ≤ b.length
      · rw [if_pos h6]
        have k1 : r1.f_e = 0 := c1.2 ⟨rfl, by omega⟩
        have k2 : r2.f_e = 0 := c2.2 ⟨k1, by omega⟩
        have k3 := (b2.at_ k2).1
        have k4 : v1.toNat = rd b a 2 := d1 k1
        have k5 : v2.toNat = rd b (a + 2) 4 := d2 k2
        rw [b2.rd.b, k3, k2, show ((0 : UInt64)) = UInt64.ofNat 0 from rfl, show ((a + 2 + 4 : Nat) : Int) = ((a + 6 : Nat) : Int) from rfl, kids_prog hb (v1, r1) (v2, r2) f1 f2 v1.toNat 0 (a + 6) acc (by dsimp only; omega) (by omega) h6 (by omega)] at hst
        dsimp only at hst
        rw [k4, k5] at hst
        cases hk : kidsP b (rd b (a + 2) 4 : Int) (rd b a 2) (a + 6) acc with
        | none =>
          rw [hk] at hst
          rw [loop_end (r := .inr ([], 6)) hst]
        | some y =>
          obtain ⟨acc', a'⟩ := y
          rw [hk] at hst
          have hs := kidsP_some _ _ _ _ _ _ _ hk
          rw [loop_next (s' := (b, (a' : Int), 0, acc')) hst]
          exact ih a' acc' (by omega) (hs.2.1 h6) (by omega)
      · rw [if_neg h6]
        have k2 : r2.f_e ≠ 0 := fun e => h6 (by have := (c2.1 e).2; omega)
        have hin : ∃ z, loopO (fun s => dirent_Decode_l2 (v1, r1) (v2, r2) s.1 s.2.1 s.2.2.1 s.2.2.2.1 s.2.2.2.2) (r2.f_b, r2.f_at, r2.f_e, acc, (0 : UInt64)) = some z ∧ (z = .inl (r2.f_b, r2.f_at, r2.f_e, acc) ∨ z = .inr (.inr (.inr ([], 6)))) := by
          by_cases hz : v1.toNat = 0
          · refine ⟨_, loop_end (r := .inl (r2.f_b, r2.f_at, r2.f_e, acc)) ?_, .inl rfl⟩
            show dirent_Decode_l2 (v1, r1) (v2, r2) r2.f_b r2.f_at r2.f_e acc 0 = _
            unfold dirent_Decode_l2
            rw [decide_eq_false (by dsimp only; rw [hz]; decide)]
            rfl
          · refine ⟨_, loop_end (r := .inr (.inr (.inr ([], 6)))) ?_, .inr rfl⟩
            show dirent_Decode_l2 (v1, r1) (v2, r2) r2.f_b r2.f_at r2.f_e acc 0 = _
            obtain ⟨w1, s1, w2, s2, y, s3, g1, g2, g3, g4, g5, g6, g7⟩ := kid_prog (by omega) b2
            have he : s3.f_e ≠ 0 := fun e => k2 (g5.1 e).1
            unfold dirent_Decode_l2
            rw [decide_eq_true (show ((0 : UInt64).toNat : Int) < ((v1, r1).1.toNat : Int) by show (0 : Int) < (v1.toNat : Int); omega)]
            rw [show field_Reader_Num ⟨r2.f_b, r2.f_at, r2.f_e⟩ 2 = _ from g1]
            simp only [cond_true, Option.bind_some]
            rw [g2]
            simp only [Option.bind_some]
            rw [g3]
            simp only [Option.bind_some, field_Reader_Err]
            rw [show (s3.f_e != 0) = true from bne_iff_ne.2 he, cond_true]
        obtain ⟨z, hz, hz2⟩ := hin
        rw [hz] at hst
        have hend : dirent_Decode_l1 b (a : Int) 0 acc = some (.inr (.inr ([], 6))) := by
          rw [hst]
          rcases hz2 with rfl | rfl
          · rw [bnd_inl]
            show cond (r2.f_e != 0) _ _ = _
            rw [show (r2.f_e != 0) = true from bne_iff_ne.2 k2]
            rfl
          · rfl
        rw [loop_end (r := .inr ([], 6)) hend]
    · rw [if_neg hlt]
      have hst : dirent_Decode_l1 b (a : Int) 0 acc = some (.inr (.inl acc)) := by
        unfold dirent_Decode_l1 field_Reader_Left
        simp only [Option.bind_some]
        rw [wI (by omega), decide_eq_false (by omega)]
        rfl
      rw [loop_end (r := .inl acc) hst]
theorem Decode_eq {b : List UInt8} (hb : b.length ≤ 1000000) : dirent_Decode b = some (decB b) := by
  unfold dirent_Decode decB
  rw [new_ok (by omega)]
  simp only [Option.bind_some]
  have := rows_prog hb b.length 0 [] (by omega) (by omega) (by simp)
  rw [show ((b, ((0 : Nat) : Int), (0 : Int), []) : List UInt8 × Int × Int × List TApiKid) = (b, 0, 0, []) from rfl] at this
  rw [this]
  cases hp : rowsP b b.length 0 [] with
  | none => rfl
  | some l =>
    have hl := rowsP_len b _ _ _ _ (Nat.le_refl 0) (by omega) hp
    simp only [bnd_inl]
    cases hr : rightF [] l with
    | false =>
      rw [Encode_no hr]
      simp
    | true =>
      rw [Encode_ok hr (by omega)]
      simp only [Option.bind_some, bne_self_eq_false, cond_false, bytes_Equal]
      by_cases he : encB l = b
      · rw [show (encB l == b) = true from beq_iff_eq.2 he, cond_true, if_pos ⟨trivial, he⟩]
      · rw [show (encB l == b) = false from beq_eq_false_iff_ne.2 he, cond_false, if_neg (fun h => he h.2)]
end Go.Proofs.Ytebbaokcgnjfiaa.F
