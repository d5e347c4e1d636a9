/- Digits at base 10 and 16: the library's and the document's, in plain words. -/
import Derived.Test.YtgoedcjjckdlpaaDoorLSP
import Derived.Test.YtgoedcjjckdlpaaDoorW
set_option linter.unusedVariables false
set_option linter.unusedSimpArgs false
namespace Go.Proofs.YtgoedcjjckdlpaaDoor.F
open Go Go.RowKit Go.Proofs.YtgoedcjjckdlpaaDoor.K

/-- The sign of a digit. -/
def dc (k : Nat) : UInt8 := UInt8.ofNat (if k < 10 then 48 + k else 87 + k)
/-- So many digits of a number. -/
def pd (b : Nat) : Nat → Nat → List UInt8
  | 0, _ => []
  | k + 1, n => pd b k (n / b) ++ [dc (n % b)]
theorem pd_succ (b k n : Nat) : pd b (k + 1) n = pd b k (n / b) ++ [dc (n % b)] := rfl
theorem pd_len (b : Nat) : ∀ k n, (pd b k n).length = k
  | 0, _ => rfl
  | k + 1, n => by rw [pd, List.length_append, pd_len b k]; rfl
/-- How many digits there are. -/
def Dg (b k n : Nat) : Prop := 1 ≤ k ∧ n < b ^ k ∧ (k = 1 ∨ b ^ (k - 1) ≤ n)
theorem dg_ex {b : Nat} (hb : 2 ≤ b) (n : Nat) : ∃ k, Dg b k n := by
  have key : ∀ j, n < b ^ (j + 1) → ∃ k, Dg b k n := by
    intro j
    induction j with
    | zero => intro h; exact ⟨1, Nat.le_refl _, h, .inl rfl⟩
    | succ j ih =>
      intro h
      by_cases h2 : n < b ^ (j + 1)
      · exact ih h2
      · exact ⟨j + 2, by omega, h, .inr (by show b ^ (j + 1) ≤ n; omega)⟩
  refine key n ?_
  have : n < b ^ n := Nat.lt_pow_self hb
  have h2 : b ^ n ≤ b ^ (n + 1) := Nat.pow_le_pow_right (by omega) (by omega)
  omega
theorem dg_div {b k n : Nat} (hb : 2 ≤ b) (h : Dg b (k + 2) n) : Dg b (k + 1) (n / b) ∧ 0 < n / b := by
  obtain ⟨_, h2, h3⟩ := h
  have h3 : b ^ (k + 1) ≤ n := h3.elim (fun e => by omega) (fun e => e)
  have h4 : n / b < b ^ (k + 1) := by rw [Nat.div_lt_iff_lt_mul (by omega)]; rw [Nat.pow_succ] at h2; exact h2
  have h5 : b ^ k ≤ n / b := by rw [Nat.le_div_iff_mul_le (by omega)]; rw [Nat.pow_succ] at h3; exact h3
  have h6 : 0 < b ^ k := Nat.pow_pos (by omega)
  exact ⟨⟨by omega, h4, .inr h5⟩, by omega⟩
theorem dg_le {b k n : Nat} (h : Dg b k n) {j : Nat} (hj : n < b ^ j) (hb : 2 ≤ b) (h1 : 1 ≤ j) : k ≤ j := by
  rcases h.2.2 with e | e
  · omega
  · have : b ^ (k - 1) < b ^ j := by omega
    have := (Nat.pow_lt_pow_iff_right (a := b) (by omega)).1 this
    omega
theorem dc16 : ∀ k : Nat, k < 16 → ([48, 49, 50, 51, 52, 53, 54, 55, 56, 57, 97, 98, 99, 100, 101, 102] : List UInt8)[k]? = some (dc k) := by decide
theorem Digits_loop (b : Nat) (hb : 2 ≤ b ∧ b ≤ 16) : ∀ k n (s : List UInt8), Dg b (k + 1) n → n < 9223372036854775808 → s.length + k + 1 ≤ 1000000 → loopO (fun s => ref27_Digits_l1 (b : Int) s.1 s.2) ((n : Int), s) = some (pd b (k + 1) n ++ s) := by
  intro k
  induction k with
  | zero =>
    intro n s hd hn hs
    have hlt : n < b := by simpa using hd.2.1
    refine loop_end ?_
    show ref27_Digits_l1 (b : Int) (n : Int) s = _
    unfold ref27_Digits_l1
    rw [chk_d (by omega), show Int.tmod (n : Int) (b : Int) = ((n % b : Nat) : Int) from rfl, show Int.tdiv (n : Int) (b : Int) = ((n / b : Nat) : Int) from rfl, idx_ok (dc16 (n % b) (by have := Nat.mod_lt n (show 0 < b by omega); omega))]
    simp only [Option.bind_some]
    rw [cat_ok (by simp only [List.length_cons, List.length_nil]; omega)]
    have h0 : n / b = 0 := Nat.div_eq_of_lt hlt
    simp only [Option.bind_some]
    rw [h0, wI (by omega)]
    simp [pd, h0]
  | succ k ih =>
    intro n s hd hn hs
    obtain ⟨h1, h2⟩ := dg_div hb.1 hd
    have h3 : n / b ≤ n := Nat.div_le_self _ _
    refine (loop_next (s' := (((n / b : Nat) : Int), [dc (n % b)] ++ s)) ?_).trans ?_
    · show ref27_Digits_l1 (b : Int) (n : Int) s = _
      unfold ref27_Digits_l1
      rw [chk_d (by omega), show Int.tmod (n : Int) (b : Int) = ((n % b : Nat) : Int) from rfl, show Int.tdiv (n : Int) (b : Int) = ((n / b : Nat) : Int) from rfl, idx_ok (dc16 (n % b) (by have := Nat.mod_lt n (show 0 < b by omega); omega))]
      simp only [Option.bind_some]
      rw [cat_ok (by simp only [List.length_cons, List.length_nil]; omega)]
      simp only [Option.bind_some]
      rw [wI (by omega), show (((n / b : Nat) : Int) == 0) = false from by simpa using by omega]
      rfl
    · rw [ih (n / b) _ h1 (by omega) (by simp only [List.length_append, List.length_cons, List.length_nil]; omega)]
      rw [pd_succ b (k + 1) n, List.append_assoc]
theorem Digits_ok {b k n : Nat} (hb : 2 ≤ b ∧ b ≤ 16) (hd : Dg b k n) (hn : n < 9223372036854775808) : ref27_Digits (n : Int) (b : Int) = some (pd b k n) := by
  obtain ⟨j, rfl⟩ : ∃ j, k = j + 1 := ⟨k - 1, by have := hd.1; omega⟩
  have hk : j + 1 ≤ 64 := dg_le hd (j := 64) (by have : (2:Nat) ^ 64 ≤ b ^ 64 := Nat.pow_le_pow_left hb.1 _; omega) hb.1 (by omega)
  have := Digits_loop b hb j n [] hd hn (by simp; omega)
  rw [List.append_nil] at this
  exact this

/-! base 16 -/
theorem set_drop {α : Type} (a : List α) (j : Nat) (c : α) (h : j < a.length) : (a.set j c).drop j = c :: a.drop (j + 1) := by
  rw [List.drop_eq_getElem_cons (by simpa using h), List.getElem_set_self, List.drop_set_of_lt (by omega)]
theorem dc36 : ∀ k : Nat, k < 16 → ([48, 49, 50, 51, 52, 53, 54, 55, 56, 57, 97, 98, 99, 100, 101, 102, 103, 104, 105, 106, 107, 108, 109, 110, 111, 112, 113, 114, 115, 116, 117, 118, 119, 120, 121, 122] : List UInt8)[k]? = some (dc k) := by decide
theorem and15 (u : UInt64) : (u &&& ((UInt64.ofInt 16) - (1 : UInt64))).toNat = u.toNat % 16 := by
  rw [show (UInt64.ofInt 16) - (1 : UInt64) = 15 from by decide, UInt64.toNat_and]
  exact Nat.and_two_pow_sub_one_eq_mod u.toNat 4
theorem shr4 (u : UInt64) : (shr64 u ((UInt64.ofInt 4).toNat : Int)).toNat = u.toNat / 16 := by
  unfold shr64
  rw [show (UInt64.ofInt 4).toNat = 4 from by decide]
  have := u.toNat_lt
  simp only [Int.toNat_natCast, show min 4 64 = 4 from rfl, UInt64.toNat_ofNat']
  omega
theorem bits_loop : ∀ k j (u : UInt64) (a : List UInt8), Dg 16 (k + 1) u.toNat → k + 1 ≤ j → j ≤ 65 → a.length = 65 →
    ∃ u' a', loopO (fun s => internal_strconv_formatBits_l1 16 4 s.1 s.2.1 s.2.2) (u, a, (j : Int)) = some (u', a', ((j - k : Nat) : Int)) ∧ a'.length = 65 ∧ u'.toNat < 16 ∧ dc u'.toNat :: a'.drop (j - k) = pd 16 (k + 1) u.toNat ++ a.drop j := by
  intro k
  induction k with
  | zero =>
    intro j u a hd h1 h2 ha
    have hlt : u.toNat < 16 := by simpa using hd.2.1
    refine ⟨u, a, loop_end ?_, ha, hlt, ?_⟩
    · show internal_strconv_formatBits_l1 16 4 u a (j : Int) = _
      unfold internal_strconv_formatBits_l1
      rw [show (UInt64.ofInt 16).toNat = 16 from by decide, decide_eq_false (by omega)]
      rfl
    · rw [Nat.sub_zero]
      simp [pd, Nat.mod_eq_of_lt hlt]
  | succ k ih =>
    intro j u a hd h1 h2 ha
    obtain ⟨h3, h4⟩ := dg_div (by omega) hd
    have e := shr4 u
    obtain ⟨u', a', h5, h6, h7, h8⟩ := ih (j - 1) (shr64 u ((UInt64.ofInt 4).toNat : Int)) (a.set (j - 1) (dc (u.toNat % 16))) (by rw [e]; exact h3) (by omega) (by omega) (by simpa using ha)
    refine ⟨u', a', (loop_next (s' := (shr64 u ((UInt64.ofInt 4).toNat : Int), a.set (j - 1) (dc (u.toNat % 16)), ((j - 1 : Nat) : Int))) ?_).trans (h5.trans ?_), h6, h7, ?_⟩
    · show internal_strconv_formatBits_l1 16 4 u a (j : Int) = _
      unfold internal_strconv_formatBits_l1
      rw [show (UInt64.ofInt 16).toNat = 16 from by decide, decide_eq_true (by omega), cond_true, and15, idx_ok (dc36 _ (by omega)), Option.bind_some, wI (by omega), show ((j : Int) - 1) = ((j - 1 : Nat) : Int) by omega, idx_ok (List.getElem?_eq_getElem (by omega)), Option.bind_some, chk_d (by omega)]
      rfl
    · rw [show j - 1 - k = j - (k + 1) by omega]
    · rw [show j - (k + 1) = j - 1 - k by omega, h8, e, set_drop _ _ _ (by omega), pd_succ 16 (k + 1) u.toNat, List.append_assoc, show j - 1 + 1 = j by omega]
      rfl
theorem tz16 : math_bits_TrailingZeros (UInt64.ofInt 16) = some 4 := by decide +kernel
theorem p16 : internal_strconv_isPowerOfTwo 16 = true := by decide +kernel
theorem formatBits_ok {k : Nat} {u : UInt64} (hd : Dg 16 k u.toNat) : internal_strconv_formatBits [] u 16 false false = some ([], pd 16 k u.toNat) := by
  obtain ⟨j, rfl⟩ : ∃ j, k = j + 1 := ⟨k - 1, by have := hd.1; omega⟩
  have hk : j + 1 ≤ 16 := dg_le hd (j := 16) (by have := u.toNat_lt; omega) (by omega) (by omega)
  obtain ⟨u', a', h1, h2, h3, h4⟩ := bits_loop j 65 u (List.replicate 65 0) hd (by omega) (by omega) (by simp)
  unfold internal_strconv_formatBits
  rw [show decide ((16 : Int) < 2) = false from rfl, show ((16 : Int) == 10) = false from rfl, show decide ((16 : Int) > 36) = false from rfl]
  simp only [cond_false, cond_true, lt_eq, p16, tz16, Option.bind_some]
  rw [show ((65 : Int)) = ((65 : Nat) : Int) from rfl, h1]
  simp only [Option.bind_some]
  rw [idx_ok (dc36 _ (by omega)), Option.bind_some, wI (by omega), show (((65 - j : Nat) : Int) - 1) = ((64 - j : Nat) : Int) by omega, idx_ok (List.getElem?_eq_getElem (show 64 - j < a'.length by omega)), Option.bind_some, chk_d (by omega), Option.bind_some]
  have hlen : (a'.set (64 - j) (dc u'.toNat)).length = 65 := by simpa using h2
  simp only [Int.toNat_natCast]
  rw [chk_d hlen, Option.bind_some, hlen, slc_ok (by rw [hlen]; omega), Option.bind_some, Int.toNat_natCast, Int.toNat_natCast, List.take_of_length_le (by omega), set_drop _ _ _ (by omega), show 64 - j + 1 = 65 - j by omega, h4]
  rw [show (List.replicate 65 (0 : UInt8)).drop 65 = [] from rfl, List.append_nil]
theorem FormatUint16 {k : Nat} {u : UInt64} (hd : Dg 16 k u.toNat) : strconv_FormatUint u 16 = some (pd 16 k u.toNat) := by
  unfold strconv_FormatUint internal_strconv_FormatUint
  rw [show ((16 : Int) == 10) = false from rfl, cond_false, formatBits_ok hd]
  rfl
/-! all sixteen digits -/
theorem pd_zero (b : Nat) : ∀ j, pd b j 0 = List.replicate j 48
  | 0 => rfl
  | j + 1 => by
    rw [pd_succ, Nat.zero_div, pd_zero b j, Nat.zero_mod]
    exact (List.replicate_succ' (n := j) (a := (48 : UInt8))).symm
theorem pd_pad {b : Nat} (hb : 2 ≤ b) (j : Nat) : ∀ k n, n < b ^ k → pd b (k + j) n = List.replicate j 48 ++ pd b k n
  | 0, n, h => by
    have : n = 0 := by simpa using h
    subst this
    rw [Nat.zero_add, pd_zero]
    simp [pd]
  | k + 1, n, h => by
    have h2 : n / b < b ^ k := by rw [Nat.div_lt_iff_lt_mul (by omega)]; rw [Nat.pow_succ] at h; exact h
    rw [show k + 1 + j = (k + j) + 1 by omega, pd_succ, pd_pad hb j k _ h2, pd_succ, List.append_assoc]
theorem rep48 : ∀ j, Lib.repeatL ([48] : List UInt8) j = List.replicate j 48
  | 0 => rfl
  | j + 1 => by
    rw [Lib.repeatL, rep48 j, List.replicate_succ]
    rfl
theorem six_loop : ∀ (k : Nat) (u : UInt64) (b : List UInt8), b.length = 16 → k ≤ 16 → loopO (fun s => ref31_sixteen_l1 s.1 s.2.1 s.2.2) (u, b, (k : Int) - 1) = some (pd 16 k u.toNat ++ b.drop k)
  | 0, u, b, hb, hk => by
    refine loop_end ?_
    show ref31_sixteen_l1 u b (((0 : Nat) : Int) - 1) = _
    unfold ref31_sixteen_l1
    rw [decide_eq_false (by omega)]
    rfl
  | k + 1, u, b, hb, hk => by
    have hm : (u % (16 : UInt64)).toNat = u.toNat % 16 := UInt64.toNat_mod ..
    have hd : (u / (16 : UInt64)).toNat = u.toNat / 16 := UInt64.toNat_div ..
    refine (loop_next (s' := (u / (16 : UInt64), b.set k (dc (u.toNat % 16)), (k : Int) - 1)) ?_).trans ?_
    · show ref31_sixteen_l1 u b (((k + 1 : Nat) : Int) - 1) = _
      unfold ref31_sixteen_l1
      rw [decide_eq_true (by omega), cond_true, hm, idx_ok (dc16 _ (by omega)), Option.bind_some, show ((k + 1 : Nat) : Int) - 1 = (k : Int) by omega, idx_ok (List.getElem?_eq_getElem (show k < b.length by omega)), Option.bind_some, chk_d (by omega), Option.bind_some, wI (by omega), Int.toNat_natCast]
    · rw [six_loop k _ _ (by simpa using hb) (by omega), hd, set_drop _ _ _ (by omega), pd_succ, List.append_assoc]
      rfl
theorem sixteen_ok (u : UInt64) : ref31_sixteen u = some (pd 16 16 u.toNat) := by
  unfold ref31_sixteen
  have := six_loop 16 u (List.replicate 16 0) (by simp) (by omega)
  rw [show (((16 : Nat) : Int) - 1) = 15 from rfl, show (List.replicate 16 (0 : UInt8)).drop 16 = [] from rfl, List.append_nil] at this
  rw [this, Option.bind_some, chk_d (pd_len 16 16 _), Option.bind_some, slc_ok (by omega), Option.bind_some, Int.toNat_natCast, List.take_length]
  rfl
/-! numbers -/
theorem dec_pd : ∀ k u, Dg 10 k u → Lib.decDigits u = pd 10 k u
  | 0, u, h => absurd h.1 (by omega)
  | 1, u, h => by
    have hlt : u < 10 := by simpa using h.2.1
    unfold Lib.decDigits
    rw [dif_pos hlt]
    simp [pd, Nat.mod_eq_of_lt hlt, dc, hlt]
  | k + 2, u, h => by
    obtain ⟨h1, h2⟩ := dg_div (by omega) h
    unfold Lib.decDigits
    rw [dif_neg (by omega), dec_pd (k + 1) _ h1, pd_succ 10 (k + 1)]
    have : u % 10 < 10 := Nat.mod_lt _ (by omega)
    simp [dc, this]
theorem Digits10 {n : Int} (h : 0 ≤ n ∧ n ≤ 1099511627776) : ref27_Digits n 10 = some (Lib.itoa n) := by
  obtain ⟨u, rfl⟩ : ∃ u : Nat, n = (u : Int) := ⟨n.toNat, by omega⟩
  obtain ⟨k, hk⟩ := dg_ex (b := 10) (by omega) u
  have := Digits_ok (b := 10) (by omega) hk (by omega)
  rw [show (10 : Int) = ((10 : Nat) : Int) from rfl, this]
  unfold Lib.itoa
  rw [if_neg (by omega), Int.toNat_natCast, dec_pd k u hk]
theorem itoa_len {n : Int} (h : 0 ≤ n ∧ n ≤ 1099511627776) : (Lib.itoa n).length ≤ 20 := by
  unfold Lib.itoa
  rw [if_neg (by omega)]
  exact decDigits_len 19 _ (by omega)
end Go.Proofs.YtgoedcjjckdlpaaDoor.F
