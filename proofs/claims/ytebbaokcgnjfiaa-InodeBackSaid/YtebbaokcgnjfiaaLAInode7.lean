/- Inodes in plain words: the program's decoder; the laws. -/
import Derived.Test.YtebbaokcgnjfiaaLAInode6
set_option linter.unusedVariables false
set_option linter.unusedSimpArgs false
namespace Go.Proofs.Ytebbaokcgnjfiaa.F
open Go Go.RowKit Go.Proofs.Ytebbaokcgnjfiaa.K

/-- A reader that stands at a place, or is wrong. -/
structure At (l : List UInt8) (r : TFieldReader) (p : Nat) : Prop where
  rd : Rd l r
  at_ : r.f_e = 0 → r.f_at = p ∧ p ≤ l.length
theorem Num_at {l : List UInt8} (hl : l.length ≤ 10000) {r : TFieldReader} {p : Nat} (h : At l r p) {w : Nat} (hw : w = 1 ∨ w = 2 ∨ w = 4 ∨ w = 8) :
    ∃ v r', field_Reader_Num r (w : Int) = some (v, r') ∧ At l r' (p + w) ∧ (r'.f_e = 0 ↔ r.f_e = 0 ∧ p + w ≤ l.length) ∧ (r'.f_e = 0 → v.toNat = rd l p w) ∧ (r'.f_e ≠ 0 → v.toNat = 0) ∧ v.toNat < 256 ^ w := by
  obtain ⟨v, r', h1, h2, h3, h4, h5, h6, h7⟩ := Num_any (by omega) h.rd hw
  have h8 : r'.f_e = 0 ↔ r.f_e = 0 ∧ p + w ≤ l.length := by
    rw [h3]
    constructor
    · rintro ⟨a, b⟩
      have := h.at_ a
      exact ⟨a, by omega⟩
    · rintro ⟨a, b⟩
      have := h.at_ a
      exact ⟨a, by omega⟩
  refine ⟨v, r', h1, ⟨h2, fun he => ?_⟩, h8, fun he => ?_, h6, h7⟩
  · have a := h8.1 he
    have := h.at_ a.1
    have := (h4 he).1
    omega
  · have a := h8.1 he
    rw [(h4 he).2, (h.at_ a.1).1, Int.toNat_natCast]
    rfl
def sgn (k : Nat) : Int := if k < 2147483648 then (k : Int) else (k : Int) - 4294967296
theorem signed_eq {v : UInt64} (h : v.toNat < 4294967296) : inode_signed v = sgn v.toNat := by
  unfold inode_signed sgn
  have h1 : ((UInt32.ofInt (v.toNat : Int)).toNat : Int) = (v.toNat : Int) := by
    rw [← q32_wrap]
    simp [IntKind.wrap, IntKind.bits, IntKind.signed]
    omega
  rw [h1]
  have h2 : IntKind.i32.wrap (v.toNat : Int) = if v.toNat < 2147483648 then (v.toNat : Int) else (v.toNat : Int) - 4294967296 := by
    simp [IntKind.wrap, IntKind.bits, IntKind.signed]
    split <;> split <;> omega
  rw [h2, wI (by split <;> omega)]
theorem sgn_v4 {k : Nat} {x : Int} (hk : k < 4294967296) (hx : -1 ≤ x ∧ x ≤ 2147483647) : k = v4 x ↔ sgn k = x := by
  unfold v4 sgn
  split <;> split <;> omega
/-- A kind's own fields from bytes. -/
def ownP (l : List UInt8) (n : TApiInode) : Option TApiInode :=
  if n.Kind = 1 then
    if 48 + 4 * rd l 44 4 ≤ l.length then some { n with Size := IntKind.i64.wrap (rd l 20 8), Start := rd l 28 4, Frag := sgn (rd l 32 4), Off := rd l 36 4, Tail := rd l 40 4, Words := rdws (rd l 44 4) (l.drop 48) } else none
  else if n.Kind = 2 then
    if 32 ≤ l.length then some { n with Dir := rd l 20 4, Bytes := rd l 24 4, Parent := rd l 28 4 } else none
  else if n.Kind = 3 then
    if 22 ≤ l.length ∧ rd l 20 2 ≤ 4096 ∧ 22 + rd l 20 2 ≤ l.length then some { n with Target := (l.drop 22).take (rd l 20 2) } else none
  else if 24 ≤ l.length then some { n with Dev := rd l 20 4 } else none
theorem own_words {l : List UInt8} (hl : l.length ≤ 10000) (num5 : UInt64 × TFieldReader) (hc : 48 + 4 * num5.1.toNat ≤ l.length) (b0 : List UInt8) :
    ∀ k i, num5.1.toNat - i = k → i ≤ num5.1.toNat → loopO (fun s => inode_own_l1 num5 s.1 s.2.1 s.2.2.1 s.2.2.2.1 s.2.2.2.2) (rdws i (l.drop 48), l, ((48 + 4 * i : Nat) : Int), (0 : Int), UInt64.ofNat i) = some (l, ((48 + 4 * num5.1.toNat : Nat) : Int), 0, rdws num5.1.toNat (l.drop 48)) := by
  intro k
  induction k with
  | zero =>
    intro i h1 h2
    have : i = num5.1.toNat := by omega
    refine loop_end ?_
    show inode_own_l1 num5 (rdws i (l.drop 48)) l ((48 + 4 * i : Nat) : Int) 0 (UInt64.ofNat i) = _
    unfold inode_own_l1
    have hi : (UInt64.ofNat i).toNat = i := by rw [UInt64.toNat_ofNat']; omega
    rw [hi, decide_eq_false (by omega), this]
    rfl
  | succ k ih =>
    intro i h1 h2
    have := ih (i + 1) (by omega) (by omega)
    refine (loop_next ?_).trans this
    show inode_own_l1 num5 (rdws i (l.drop 48)) l ((48 + 4 * i : Nat) : Int) 0 (UInt64.ofNat i) = _
    unfold inode_own_l1
    have hi : (UInt64.ofNat i).toNat = i := by rw [UInt64.toNat_ofNat']; omega
    rw [hi, decide_eq_true (by omega)]
    have hat : At l ⟨l, ((48 + 4 * i : Nat) : Int), 0⟩ (48 + 4 * i) := ⟨⟨rfl, by dsimp only; omega, by dsimp only; omega⟩, fun _ => ⟨rfl, by omega⟩⟩
    obtain ⟨v, r', g1, g2, g3, g4, g5, g6⟩ := Num_at hl hat (w := 4) (by decide)
    have he : r'.f_e = 0 := g3.2 ⟨rfl, by omega⟩
    have hb := g2.rd.b
    have ha := (g2.at_ he).1
    have hr := rd_lt l (48 + 4 * i) 4
    rw [show field_Reader_Num ⟨l, ((48 + 4 * i : Nat) : Int), 0⟩ 4 = _ from g1]
    simp only [cond_true, Option.bind_some]
    rw [g4 he, wI (by omega), app_ok (by rw [rdws_len, List.length_singleton]; omega), hb, ha, he, rdws_snoc, rd_drop]
    have h4 : UInt64.ofNat i + 1 = UInt64.ofNat (i + 1) := by
      apply UInt64.toNat_inj.1
      rw [UInt64.toNat_add, hi, UInt64.toNat_ofNat']
      show (i + 1) % 2 ^ 64 = _
      omega
    rw [h4]
    rfl
theorem own_all {l : List UInt8} (hl : l.length ≤ 10000) {r : TFieldReader} (h : At l r 20) (n : TApiInode) (hw : n.Words = []) :
    ∃ r' n', inode_own r n = some (r', n') ∧ Rd l r' ∧ (r'.f_e = 0 ↔ r.f_e = 0 ∧ (ownP l n).isSome) ∧ (r'.f_e = 0 → ownP l n = some n' ∧ r'.f_at = 20 + ((restB n').length : Int)) := by
  unfold inode_own ownP
  by_cases k1 : n.Kind = 1
  · rw [show (n.Kind == 1) = true from beq_iff_eq.2 k1, cond_true, if_pos k1]
    obtain ⟨v1, r1, a1, b1, c1, d1, e1, f1⟩ := Num_at hl h (w := 8) (by decide)
    obtain ⟨v2, r2, a2, b2, c2, d2, e2, f2⟩ := Num_at hl b1 (w := 4) (by decide)
    obtain ⟨v3, r3, a3, b3, c3, d3, e3, f3⟩ := Num_at hl b2 (w := 4) (by decide)
    obtain ⟨v4, r4, a4, b4, c4, d4, e4, f4⟩ := Num_at hl b3 (w := 4) (by decide)
    obtain ⟨v5, r5, a5, b5, c5, d5, e5, f5⟩ := Num_at hl b4 (w := 4) (by decide)
    obtain ⟨v6, r6, a6, b6, c6, d6, e6, f6⟩ := Num_at hl b5 (w := 4) (by decide)
    rw [show field_Reader_Num r 8 = _ from a1]
    simp only [Option.bind_some]
    rw [show field_Reader_Num r1 4 = _ from a2]
    simp only [Option.bind_some]
    rw [show field_Reader_Num r2 4 = _ from a3]
    simp only [Option.bind_some]
    rw [show field_Reader_Num r3 4 = _ from a4]
    simp only [Option.bind_some]
    rw [show field_Reader_Num r4 4 = _ from a5]
    simp only [Option.bind_some]
    rw [show field_Reader_Num r5 4 = _ from a6]
    simp only [Option.bind_some]
    have hlo := b6.rd.lo
    have hhi := b6.rd.hi
    have hL : field_Reader_Left r6 = some ((l.length : Int) - r6.f_at) := by
      unfold field_Reader_Left
      rw [b6.rd.b, wI (by omega)]
    rw [hL]
    simp only [Option.bind_some]
    have hq : ((UInt64.ofInt (IntKind.i64.wrap (Int.tdiv ((l.length : Int) - r6.f_at) 4))).toNat : Int) = ((l.length : Int) - r6.f_at) / 4 := by
      rw [Int.tdiv_eq_ediv_of_nonneg (by omega), wI (by omega), ofInt_nat (by omega)]
      omega
    rw [hq]
    by_cases hbig : (v6.toNat : Int) > ((l.length : Int) - r6.f_at) / 4
    · rw [decide_eq_true hbig, cond_true]
      have he6 : r6.f_e = 0 := by
        rcases Decidable.em (r6.f_e = 0) with h0 | h0
        · exact h0
        · have := e6 h0; omega
      have hat := (b6.at_ he6).1
      have hv6 : v6.toNat = rd l 44 4 := d6 he6
      obtain ⟨y, r7, g1, g2, g3, g4, g5, g6, g7⟩ := take_any (by omega) b6.rd (n := (l.length : Int) - r6.f_at + 1) (by omega)
      have hB : field_Reader_Bytes r6 ((l.length : Int) - r6.f_at + 1) = some (y, r7) := by
        unfold field_Reader_Bytes
        rw [g1]
        simp only [Option.bind_some]
        rw [copied_ok (by omega)]
        rfl
      rw [wI (by omega), hB]
      simp only [Option.bind_some]
      have he7 : r7.f_e ≠ 0 := fun h0 => by have := (g3.1 h0).2; omega
      refine ⟨_, _, rfl, g2, ⟨fun h0 => absurd h0 he7, fun h0 => ?_⟩, fun h0 => absurd h0 he7⟩
      exfalso
      have h1 := h0.2
      split at h1
      · omega
      · cases h1
    · rw [decide_eq_false hbig, cond_false]
      by_cases he6 : r6.f_e = 0
      · have hat := b6.at_ he6
        have hv6 : v6.toNat = rd l 44 4 := d6 he6
        have h5 := (c6.1 he6).1
        have h4 := (c5.1 h5).1
        have h3 := (c4.1 h4).1
        have h2 := (c3.1 h3).1
        have h1 := (c2.1 h2).1
        have h0 := (c1.1 h1).1
        have hloop := own_words hl (v6, r6) (show 48 + 4 * v6.toNat ≤ l.length by omega) l v6.toNat 0 (by dsimp only; omega) (by omega)
        rw [hw, b6.rd.b, hat.1, he6]
        rw [show ((rdws 0 (l.drop 48), l, ((48 + 4 * 0 : Nat) : Int), (0 : Int), UInt64.ofNat 0) : List Int × List UInt8 × Int × Int × UInt64) = ([], l, ((20 + 8 + 4 + 4 + 4 + 4 + 4 : Nat) : Int), 0, 0) from rfl] at hloop
        rw [hloop]
        simp only [Option.bind_some]
        have z2 := f2
        have z3 := f3
        have z4 := f4
        have z5 := f5
        rw [wI (x := (v2.toNat : Int)) (by omega), wI (x := (v4.toNat : Int)) (by omega), wI (x := (v5.toNat : Int)) (by omega), signed_eq f3, d1 h1, d2 h2, d3 h3, d4 h4, d5 h5, hv6]
        simp only [Nat.reduceAdd]
        rw [if_pos (by omega)]
        refine ⟨_, _, rfl, ⟨rfl, by dsimp only; omega, by dsimp only; omega⟩, by simp [h0], fun _ => ⟨rfl, ?_⟩⟩
        unfold restB fileB
        simp only [k1]
        simp [enc_length, wordsB_len, rdws_len]
        omega
      · have hz : v6.toNat = 0 := e6 he6
        rw [loop_end (s := (n.Words, r6.f_b, r6.f_at, r6.f_e, 0)) (r := (r6.f_b, r6.f_at, r6.f_e, n.Words)) (by
          show inode_own_l1 (v6, r6) n.Words r6.f_b r6.f_at r6.f_e 0 = _
          unfold inode_own_l1
          rw [decide_eq_false (by dsimp only; rw [hz]; decide)]
          rfl)]
        simp only [Option.bind_some]
        refine ⟨_, _, rfl, b6.rd, ⟨fun h0 => absurd h0 he6, fun h0 => absurd (?_ : r6.f_e = 0) he6⟩, fun h0 => absurd h0 he6⟩
        have h1 := h0.2
        split at h1
        · refine c6.2 ⟨c5.2 ⟨c4.2 ⟨c3.2 ⟨c2.2 ⟨c1.2 ⟨h0.1, ?_⟩, ?_⟩, ?_⟩, ?_⟩, ?_⟩, ?_⟩ <;> omega
        · cases h1
  · rw [show (n.Kind == 1) = false from beq_eq_false_iff_ne.2 k1, cond_false, if_neg k1]
    by_cases k2 : n.Kind = 2
    · rw [show (n.Kind == 2) = true from beq_iff_eq.2 k2, cond_true, if_pos k2]
      obtain ⟨v1, r1, a1, b1, c1, d1, e1, f1⟩ := Num_at hl h (w := 4) (by decide)
      obtain ⟨v2, r2, a2, b2, c2, d2, e2, f2⟩ := Num_at hl b1 (w := 4) (by decide)
      obtain ⟨v3, r3, a3, b3, c3, d3, e3, f3⟩ := Num_at hl b2 (w := 4) (by decide)
      rw [show field_Reader_Num r 4 = _ from a1]
      simp only [Option.bind_some]
      rw [show field_Reader_Num r1 4 = _ from a2]
      simp only [Option.bind_some]
      rw [show field_Reader_Num r2 4 = _ from a3]
      simp only [Option.bind_some]
      rw [wI (x := (v1.toNat : Int)) (by omega), wI (x := (v2.toNat : Int)) (by omega), wI (x := (v3.toNat : Int)) (by omega)]
      by_cases h32 : 32 ≤ l.length
      · rw [if_pos h32]
        refine ⟨_, _, rfl, b3.rd, ?_, fun he3 => ?_⟩
        · simp only [Option.isSome_some, and_true]
          exact ⟨fun h0 => (c1.1 (c2.1 (c3.1 h0).1).1).1, fun h0 => c3.2 ⟨c2.2 ⟨c1.2 ⟨h0, by omega⟩, by omega⟩, by omega⟩⟩
        · have he2 := (c3.1 he3).1
          have he1 := (c2.1 he2).1
          rw [d1 he1, d2 he2, d3 he3]
          refine ⟨rfl, ?_⟩
          rw [(b3.at_ he3).1]
          unfold restB
          simp only [k2]
          simp [enc_length]
      · rw [if_neg h32]
        have he3 : r3.f_e ≠ 0 := fun h0 => by have := (c3.1 h0).2; omega
        exact ⟨_, _, rfl, b3.rd, ⟨fun h0 => absurd h0 he3, fun h0 => by cases h0.2⟩, fun h0 => absurd h0 he3⟩
    · rw [show (n.Kind == 2) = false from beq_eq_false_iff_ne.2 k2, cond_false, if_neg k2]
      by_cases k3 : n.Kind = 3
      · rw [show (n.Kind == 3) = true from beq_iff_eq.2 k3, cond_true, if_pos k3]
        obtain ⟨y, r1, a1, b1, c1, d1, e1, f1⟩ := Text_any (by omega) h.rd (most := 4096) (by omega)
        rw [a1]
        simp only [Option.bind_some]
        have hc : r1.f_e = 0 ↔ r.f_e = 0 ∧ 22 ≤ l.length ∧ rd l 20 2 ≤ 4096 ∧ 22 + rd l 20 2 ≤ l.length := by
          rw [c1]
          constructor
          · rintro ⟨q1, q2, q3, q4⟩
            have hat := (h.at_ q1).1
            rw [hat, Int.toNat_natCast] at q3 q4
            unfold rd
            exact ⟨q1, by omega, by omega, by omega⟩
          · rintro ⟨q1, q2, q3, q4⟩
            have hat := (h.at_ q1).1
            unfold rd at q3 q4
            rw [hat, Int.toNat_natCast]
            exact ⟨q1, by omega, by omega, by omega⟩
        by_cases hok : 22 ≤ l.length ∧ rd l 20 2 ≤ 4096 ∧ 22 + rd l 20 2 ≤ l.length
        · rw [if_pos hok]
          refine ⟨_, _, rfl, b1, ?_, fun he => ?_⟩
          · rw [hc]
            simp [hok]
          · have hat := (h.at_ (hc.1 he).1).1
            obtain ⟨g1, g2⟩ := d1 he
            rw [hat, Int.toNat_natCast] at g1 g2
            have hlen : y.length = rd l 20 2 := by
              rw [g2, List.length_take, List.length_drop]
              show min (rd l 20 2) _ = _
              omega
            refine ⟨by rw [g2]; rfl, ?_⟩
            rw [g1]
            show ((20 : Nat) : Int) + 2 + (rd l 20 2 : Int) = _
            unfold restB
            simp [k3, enc_length, hlen]
            omega
        · rw [if_neg hok]
          have he : r1.f_e ≠ 0 := fun h0 => hok (hc.1 h0).2
          exact ⟨_, _, rfl, b1, ⟨fun h0 => absurd h0 he, fun h0 => by cases h0.2⟩, fun h0 => absurd h0 he⟩
      · rw [show (n.Kind == 3) = false from beq_eq_false_iff_ne.2 k3, cond_false, if_neg k3]
        obtain ⟨v1, r1, a1, b1, c1, d1, e1, f1⟩ := Num_at hl h (w := 4) (by decide)
        rw [show field_Reader_Num r 4 = _ from a1]
        simp only [Option.bind_some]
        rw [wI (x := (v1.toNat : Int)) (by omega)]
        by_cases h24 : 24 ≤ l.length
        · rw [if_pos h24]
          refine ⟨_, _, rfl, b1.rd, ?_, fun he => ?_⟩
          · simp only [Option.isSome_some, and_true]
            exact ⟨fun h0 => (c1.1 h0).1, fun h0 => c1.2 ⟨h0, by omega⟩⟩
          · rw [d1 he]
            refine ⟨rfl, ?_⟩
            rw [(b1.at_ he).1]
            unfold restB
            simp [k1, k2, k3, enc_length]
        · rw [if_neg h24]
          have he : r1.f_e ≠ 0 := fun h0 => by have := (c1.1 h0).2; omega
          exact ⟨_, _, rfl, b1.rd, ⟨fun h0 => absurd h0 he, fun h0 => by cases h0.2⟩, fun h0 => absurd h0 he⟩
/-- What bytes would be, by the program. -/
def headI (l : List UInt8) : TApiInode := { Kind := rd l 0 2, Mode := rd l 2 2, Uid := rd l 4 2, Gid := rd l 6 2, Time := rd l 8 4, Links := rd l 12 4, Attrs := sgn (rd l 16 4), Size := 0, Start := 0, Words := [], Frag := 0, Off := 0, Tail := 0, Dir := 0, Bytes := 0, Parent := 0, Target := [], Dev := 0 }
theorem w8 {k : Nat} {x : Int} (hx : 0 ≤ x ∧ x ≤ 1099511627775) (hk : k < 256 ^ 8) : IntKind.i64.wrap (k : Int) = x ↔ (k : Int) = x := by
  by_cases h : (k : Int) ≤ 9223372036854775807
  · rw [wI (by omega)]
  · have : IntKind.i64.wrap (k : Int) = (k : Int) - 18446744073709551616 := by
      simp [IntKind.wrap, IntKind.bits, IntKind.signed]
      omega
    rw [this]
    omega
theorem ownP_kind {l : List UInt8} {n n' : TApiInode} (h : ownP l n = some n') : n'.Kind = n.Kind := by
  unfold ownP at h
  split at h
  · split at h
    · injection h with h; rw [← h]
    · cases h
  · split at h
    · split at h
      · injection h with h; rw [← h]
      · cases h
    · split at h
      · split at h
        · injection h with h; rw [← h]
        · cases h
      · split at h
        · injection h with h; rw [← h]
        · cases h
/-- What the program reads and finds right is what has these bytes. -/
theorem parse_iff (l : List UInt8) (n : TApiInode) (hc : chkI n = 0) : (20 ≤ l.length ∧ ownP l (headI l) = some n) ↔ bytesI n <+: l := by
  obtain ⟨hk, hg⟩ := good_of_chk hc
  rw [bytes_iff hk hg]
  obtain ⟨⟨hm, ht, hu, hgi, hlk, ha⟩, hF, hF', hD, hD', hT, hT', hV, hV'⟩ := hg
  have q16 := rd_lt l 16 4
  have hA := sgn_v4 (k := rd l 16 4) (x := n.Attrs) (by omega) (by omega)
  unfold headP restP
  by_cases k1 : n.Kind = 1
  · obtain ⟨f1, f2, f3, f4, f5, f6, f7, f8, f9⟩ := hF k1
    have q32 := rd_lt l 32 4
    have hFr := sgn_v4 (k := rd l 32 4) (x := n.Frag) (by omega) (by omega)
    have hS := w8 (k := rd l 20 8) f1 (rd_lt l 20 8)
    have d := hD' (by omega)
    have t := hT' (by omega)
    have v := hV' (by omega)
    rw [if_pos k1, hA, hFr]
    constructor
    · rintro ⟨h20, h⟩
      have hk0 : (rd l 0 2 : Int) = 1 := by
        have := ownP_kind h
        have h2 : (headI l).Kind = (rd l 0 2 : Int) := rfl
        omega
      unfold ownP at h
      rw [if_pos (show (headI l).Kind = 1 from hk0)] at h
      split at h
      · rename_i h48
        injection h with h
        subst h
        dsimp only [headI] at *
        rw [rdws_len]
        exact ⟨⟨h20, rfl, rfl, rfl, rfl, rfl, rfl, rfl⟩, by omega, hS.1 rfl, rfl, rfl, rfl, rfl, rfl, h48, rfl⟩
      · cases h
    · rintro ⟨⟨a1, a2, a3, a4, a5, a6, a7, a8⟩, b1, b2, b3, b4, b5, b6, b7, b8, b9⟩
      refine ⟨a1, ?_⟩
      unfold ownP
      rw [if_pos (show (headI l).Kind = 1 from a2.trans k1), if_pos (by omega), b7, b9]
      obtain ⟨K, Mo, U, G, T, L, At, S, St, W, F, O, Ta, Di, By, Pa, Tg, De⟩ := n
      dsimp only [headI] at *
      rw [hS.2 b2]
      simp [*]
  · rw [if_neg k1, hA]
    have d := hF' (by omega)
    have hw0 : n.Words = [] := List.length_eq_zero_iff.1 d.2.2.1
    by_cases k2 : n.Kind = 2
    · obtain ⟨f1, f2, f3⟩ := hD k2
      have t := hT' (by omega)
      have v := hV' (by omega)
      rw [if_pos k2]
      constructor
      · rintro ⟨h20, h⟩
        have hk0 : (rd l 0 2 : Int) = 2 := by
          have := ownP_kind h
          have h2 : (headI l).Kind = (rd l 0 2 : Int) := rfl
          omega
        unfold ownP at h
        rw [if_neg (show ¬ (headI l).Kind = 1 from fun h => by have h2 : (headI l).Kind = (rd l 0 2 : Int) := rfl; omega), if_pos (show (headI l).Kind = 2 from hk0)] at h
        split at h
        · rename_i h48
          injection h with h
          subst h
          dsimp only [headI] at *
          exact ⟨⟨h20, rfl, rfl, rfl, rfl, rfl, rfl, rfl⟩, h48, rfl, rfl, rfl⟩
        · cases h
      · rintro ⟨⟨a1, a2, a3, a4, a5, a6, a7, a8⟩, b1, b2, b3, b4⟩
        refine ⟨a1, ?_⟩
        unfold ownP
        rw [if_neg (show ¬ (headI l).Kind = 1 from fun h => by have h2 : (headI l).Kind = (rd l 0 2 : Int) := rfl; omega), if_pos (show (headI l).Kind = 2 from a2.trans k2), if_pos (by omega)]
        obtain ⟨K, Mo, U, G, T, L, At, S, St, W, F, O, Ta, Di, By, Pa, Tg, De⟩ := n
        dsimp only [headI] at *
        simp [*]
    · rw [if_neg k2]
      have hd0 := hD' k2
      by_cases k3 : n.Kind = 3
      · obtain ⟨⟨f1, f2⟩, f3⟩ := hT k3
        have v := hV' (by omega)
        rw [if_pos k3]
        constructor
        · rintro ⟨h20, h⟩
          have hk0 : (rd l 0 2 : Int) = 3 := by
            have := ownP_kind h
            have h2 : (headI l).Kind = (rd l 0 2 : Int) := rfl
            omega
          unfold ownP at h
          rw [if_neg (show ¬ (headI l).Kind = 1 from fun h => by have h2 : (headI l).Kind = (rd l 0 2 : Int) := rfl; omega), if_neg (show ¬ (headI l).Kind = 2 from fun h => by have h2 : (headI l).Kind = (rd l 0 2 : Int) := rfl; omega), if_pos (show (headI l).Kind = 3 from hk0)] at h
          split at h
          · rename_i h48
            injection h with h
            subst h
            dsimp only [headI] at *
            have hlen : ((l.drop 22).take (rd l 20 2)).length = rd l 20 2 := by rw [List.length_take, List.length_drop]; omega
            rw [hlen]
            exact ⟨⟨h20, rfl, rfl, rfl, rfl, rfl, rfl, rfl⟩, h48.2.2, rfl, rfl⟩
          · cases h
        · rintro ⟨⟨a1, a2, a3, a4, a5, a6, a7, a8⟩, b1, b2, b3⟩
          refine ⟨a1, ?_⟩
          unfold ownP
          rw [if_neg (show ¬ (headI l).Kind = 1 from fun h => by have h2 : (headI l).Kind = (rd l 0 2 : Int) := rfl; omega), if_neg (show ¬ (headI l).Kind = 2 from fun h => by have h2 : (headI l).Kind = (rd l 0 2 : Int) := rfl; omega), if_pos (show (headI l).Kind = 3 from a2.trans k3), if_pos (by omega), b2, b3]
          obtain ⟨K, Mo, U, G, T, L, At, S, St, W, F, O, Ta, Di, By, Pa, Tg, De⟩ := n
          dsimp only [headI] at *
          simp [*]
      · rw [if_neg k3]
        have ht0 := hT' k3
        constructor
        · rintro ⟨h20, h⟩
          have hk0 := ownP_kind h
          unfold ownP at h
          rw [if_neg (by omega), if_neg (by omega), if_neg (by omega)] at h
          split at h
          · rename_i h48
            injection h with h
            subst h
            dsimp only [headI] at *
            exact ⟨⟨h20, rfl, rfl, rfl, rfl, rfl, rfl, rfl⟩, h48, rfl⟩
          · cases h
        · rintro ⟨⟨a1, a2, a3, a4, a5, a6, a7, a8⟩, b1, b2⟩
          refine ⟨a1, ?_⟩
          have hk0 : (headI l).Kind = n.Kind := a2
          unfold ownP
          rw [if_neg (by omega), if_neg (by omega), if_neg (by omega), if_pos (by omega)]
          obtain ⟨K, Mo, U, G, T, L, At, S, St, W, F, O, Ta, Di, By, Pa, Tg, De⟩ := n
          dsimp only [headI] at *
          simp [*]
theorem Decode_out (b : List UInt8) (a : Int) (h : ¬ (0 ≤ a ∧ a ≤ b.length)) : inode_Decode b a = some (zeroI, 0, 9) := by
  unfold inode_Decode
  by_cases h1 : a < 0
  · rw [decide_eq_true h1]; rfl
  · rw [decide_eq_false h1, cond_false, decide_eq_true (by omega)]; rfl
theorem Decode_all (b : List UInt8) (a : Nat) (ha : a ≤ b.length) (hb : b.length ≤ 10000) : Dec b a (inode_Decode b (a : Int)) := by
  unfold inode_Decode
  rw [decide_eq_false (by omega), cond_false, decide_eq_false (by omega), cond_false, slc_ok (by omega), Int.toNat_natCast, Int.toNat_natCast, List.take_length]
  simp only [Option.bind_some]
  have hl : (b.drop a).length ≤ 10000 := by rw [List.length_drop]; omega
  generalize hL : b.drop a = l at hl
  rw [new_ok (by omega)]
  simp only [Option.bind_some]
  have h0 : At l ⟨l, 0, 0⟩ 0 := ⟨⟨rfl, by dsimp only; omega, by dsimp only; omega⟩, fun _ => ⟨rfl, by omega⟩⟩
  obtain ⟨v1, r1, a1, b1, c1, d1, e1, f1⟩ := Num_at hl h0 (w := 2) (by decide)
  obtain ⟨v2, r2, a2, b2, c2, d2, e2, f2⟩ := Num_at hl b1 (w := 2) (by decide)
  obtain ⟨v3, r3, a3, b3, c3, d3, e3, f3⟩ := Num_at hl b2 (w := 2) (by decide)
  obtain ⟨v4, r4, a4, b4, c4, d4, e4, f4⟩ := Num_at hl b3 (w := 2) (by decide)
  obtain ⟨v5, r5, a5, b5, c5, d5, e5, f5⟩ := Num_at hl b4 (w := 4) (by decide)
  obtain ⟨v6, r6, a6, b6, c6, d6, e6, f6⟩ := Num_at hl b5 (w := 4) (by decide)
  obtain ⟨v7, r7, a7, b7, c7, d7, e7, f7⟩ := Num_at hl b6 (w := 4) (by decide)
  rw [show field_Reader_Num ⟨l, 0, 0⟩ 2 = _ from a1]
  simp only [Option.bind_some]
  rw [show field_Reader_Num r1 2 = _ from a2]
  simp only [Option.bind_some]
  rw [show field_Reader_Num r2 2 = _ from a3]
  simp only [Option.bind_some]
  rw [show field_Reader_Num r3 2 = _ from a4]
  simp only [Option.bind_some]
  rw [show field_Reader_Num r4 4 = _ from a5]
  simp only [Option.bind_some]
  rw [show field_Reader_Num r5 4 = _ from a6]
  simp only [Option.bind_some]
  rw [show field_Reader_Num r6 4 = _ from a7]
  simp only [Option.bind_some]
  rw [wI (x := (v1.toNat : Int)) (by omega), wI (x := (v2.toNat : Int)) (by omega), wI (x := (v3.toNat : Int)) (by omega), wI (x := (v4.toNat : Int)) (by omega), wI (x := (v5.toNat : Int)) (by omega), wI (x := (v6.toNat : Int)) (by omega), signed_eq (by omega)]
  have hall : r7.f_e = 0 → 20 ≤ l.length ∧ v1.toNat = rd l 0 2 ∧ v2.toNat = rd l 2 2 ∧ v3.toNat = rd l 4 2 ∧ v4.toNat = rd l 6 2 ∧ v5.toNat = rd l 8 4 ∧ v6.toNat = rd l 12 4 ∧ v7.toNat = rd l 16 4 := by
    intro h7
    have h6 := (c7.1 h7).1
    have h5 := (c6.1 h6).1
    have h4 := (c5.1 h5).1
    have h3 := (c4.1 h4).1
    have h2 := (c3.1 h3).1
    have h1 := (c2.1 h2).1
    exact ⟨by have := (c7.1 h7).2; omega, d1 h1, d2 h2, d3 h3, d4 h4, d5 h5, d6 h6, d7 h7⟩
  have hback : 20 ≤ l.length → r7.f_e = 0 := fun h => by
    refine c7.2 ⟨c6.2 ⟨c5.2 ⟨c4.2 ⟨c3.2 ⟨c2.2 ⟨c1.2 ⟨rfl, ?_⟩, ?_⟩, ?_⟩, ?_⟩, ?_⟩, ?_⟩, ?_⟩ <;> omega
  generalize hn0 : ({ Kind := (v1.toNat : Int), Mode := (v2.toNat : Int), Uid := (v3.toNat : Int), Gid := (v4.toNat : Int), Time := (v5.toNat : Int), Links := (v6.toNat : Int), Attrs := sgn v7.toNat, Size := 0, Start := 0, Words := [], Frag := 0, Off := 0, Tail := 0, Dir := 0, Bytes := 0, Parent := 0, Target := [], Dev := 0 } : TApiInode) = n0
  have hhead : r7.f_e = 0 → n0 = headI l := by
    intro h
    obtain ⟨_, g1, g2, g3, g4, g5, g6, g7⟩ := hall h
    rw [← hn0, g1, g2, g3, g4, g5, g6, g7]
    rfl
  obtain ⟨r', n', o1, o2, o3, o4⟩ := own_all hl (show At l r7 20 from b7) n0 (by rw [← hn0])
  rw [o1]
  simp only [Option.bind_some, field_Reader_Err]
  have hno : r'.f_e ≠ 0 → ∀ n, chkI n = 0 → ¬ bytesI n <+: b.drop a := by
    intro he n hc hp
    rw [hL] at hp
    obtain ⟨h20, hp⟩ := (parse_iff l n hc).2 hp
    have h7 := hback h20
    exact he (o3.2 ⟨h7, by rw [hhead h7, hp]; rfl⟩)
  by_cases he : r'.f_e = 0
  · rw [show (r'.f_e != 0) = false from bne_eq_false_iff_eq.2 he, cond_false, inode_Check_eq]
    simp only [Option.bind_some]
    have h7 := (o3.1 he).1
    obtain ⟨o5, o6⟩ := o4 he
    rw [hhead h7] at o5
    by_cases hc : chkI n' = 0
    · rw [show (chkI n' != 0) = false from bne_eq_false_iff_eq.2 hc, cond_false, o6]
      refine .inr ⟨n', ?_, hc, by rw [hL]; exact (parse_iff l n' hc).1 ⟨(hall h7).1, o5⟩⟩
      have hlen : (bytesI n').length = 20 + (restB n').length := by unfold bytesI; rw [List.length_append, headB_len]
      have hhi := o2.hi
      have hlb : l.length ≤ b.length := by rw [← hL, List.length_drop]; omega
      rw [wI (by omega), hlen]
      simp
    · rw [show (chkI n' != 0) = true from bne_iff_ne.2 hc, cond_true]
      refine .inl ⟨rfl, fun n hn hp => ?_⟩
      rw [hL] at hp
      obtain ⟨_, hp⟩ := (parse_iff l n hn).2 hp
      rw [o5] at hp
      injection hp with hp
      rw [hp] at hc
      exact hc hn
  · rw [show (r'.f_e != 0) = true from bne_iff_ne.2 he, cond_true]
    exact .inl ⟨rfl, hno he⟩
theorem InodeDecodes_pure (b : List UInt8) (hb : (rSl rU8).wf b) (at_ : Int) (ha : -9223372036854775808 ≤ at_ ∧ at_ ≤ 9223372036854775807) : law15_InodeDecodes b at_ = some true := by
  unfold law15_InodeDecodes
  rw [live15]
  by_cases h1 : (b.length : Int) > 3000
  · rw [decide_eq_true h1]; rfl
  rw [decide_eq_false h1, cond_false, app_ok (by rw [List.length_nil]; omega), List.nil_append]
  simp only [Option.bind_some]
  have key : inode_Decode b at_ = ref15_Decode b at_ ∧ ∃ y, ref15_Decode b at_ = some y := by
    by_cases hr : 0 ≤ at_ ∧ at_ ≤ b.length
    · obtain ⟨a, rfl⟩ : ∃ a : Nat, at_ = (a : Int) := ⟨at_.toNat, by omega⟩
      have h2 := Decode_all b a (by omega) (by omega)
      have h3 := refDecode b a (by omega) (by omega)
      refine ⟨Dec_one (by omega) (by omega) h2 h3, ?_⟩
      rcases h3 with ⟨h3, _⟩ | ⟨n, h3, _⟩ <;> exact ⟨_, h3⟩
    · rw [Decode_out b at_ hr, refDecode_out b at_ hr]
      exact ⟨rfl, _, rfl⟩
  obtain ⟨h2, y, h3⟩ := key
  rw [h2, h3]
  simp only [Option.bind_some]
  rw [Same_refl]
  simp [law15_num]
theorem InodeBack_pure (n : TApiInode) (hn : rApiInode.wf n) (a : List UInt8) (ha : (rSl rU8).wf a) (b : List UInt8) (hb : (rSl rU8).wf b) : law15_InodeBack n a b = some true := by
  unfold law15_InodeBack
  rw [live15, lt_eq]
  by_cases h1 : (n.Words.length : Int) > 1000
  · rw [decide_eq_true h1]; rfl
  rw [decide_eq_false h1, cond_false]
  by_cases h2 : (n.Target.length : Int) > 5000
  · rw [decide_eq_true h2]; rfl
  rw [decide_eq_false h2, cond_false]
  by_cases h3 : (a.length : Int) > 300
  · rw [decide_eq_true h3]; rfl
  rw [decide_eq_false h3, cond_false]
  by_cases h4 : (b.length : Int) > 300
  · rw [decide_eq_true h4]; rfl
  rw [decide_eq_false h4, cond_false]
  by_cases hc : chkI n = 0
  · obtain ⟨hk, hg⟩ := good_of_chk hc
    rw [Encode_ok n hk hg]
    have hlen : (bytesI n).length ≤ 8000 := by
      have hhl := headB_len n
      unfold bytesI restB
      rw [List.length_append, hhl]
      split
      · simp [fileB, enc_length, wordsB_len]; omega
      · split
        · simp [enc_length]
        · split
          · simp [enc_length]; omega
          · simp [enc_length]
    simp only [Option.bind_some, law15_num, bne_self_eq_false, cond_false]
    rw [app_ok (by rw [List.length_nil]; omega), List.nil_append]
    simp only [Option.bind_some]
    rw [app_ok (by omega)]
    simp only [Option.bind_some]
    rw [app_ok (by rw [List.length_append]; omega)]
    simp only [Option.bind_some]
    have hd := Decode_all (a ++ bytesI n ++ b) a.length (by simp only [List.length_append]; omega) (by simp only [List.length_append]; omega)
    have hp : bytesI n <+: (a ++ bytesI n ++ b).drop a.length := by
      rw [List.append_assoc, List.drop_left]
      exact List.prefix_append _ _
    have hpar := (parse_iff _ n hc).2 hp
    rcases hd with ⟨_, h⟩ | ⟨m, h5, h6, h7⟩
    · exact absurd hp (h n hc)
    · have := (parse_iff _ m h6).2 h7
      have hmn : n = m := by
        have h8 := hpar.2.symm.trans this.2
        injection h8
      subst hmn
      rw [h5]
      simp only [Option.bind_some]
      rw [wI (by omega), Same_refl]
      simp
  · rw [Encode_no n hc]
    simp only [Option.bind_some, law15_num]
    rw [show (chkI n != 0) = true from bne_iff_ne.2 hc]
    rfl
end Go.Proofs.Ytebbaokcgnjfiaa.F
