import Derived.Test.YtebbaokcgnjfiaaDoorLBP
import Derived.Test.YtebbaokcgnjfiaaDoorW
set_option linter.unusedVariables false
set_option linter.unusedSimpArgs false
namespace Go.Proofs.YtebbaokcgnjfiaaDoor.F
open Go Go.RowKit Go.Proofs.YtebbaokcgnjfiaaDoor.K
def dc (k : Nat) : UInt8 := UInt8.ofNat (if k < 10 then 48 + k else 87 + k)
def pd (b : Nat) : Nat → Nat → List UInt8
 | 0,_ => []
 | k + 1,n => pd b k (n / b) ++ [dc (n % b)]
theorem pd_succ (b k n : Nat) : pd b (k + 1) n = pd b k (n / b) ++ [dc (n % b)] := rfl
theorem pd_len (b : Nat) : ∀ k n,(pd b k n).length = k
 | 0,_ => rfl
 | k + 1,n => by rw [pd,List.length_append,pd_len b k]; rfl
def Dg (b k n : Nat) : Prop := 1 ≤ k ∧ n < b ^ k ∧ (k = 1 ∨ b ^ (k - 1) ≤ n)
theorem dg_ex {b : Nat} (hb : 2 ≤ b) (n : Nat) : ∃ k,Dg b k n := by
 have key : ∀ j,n < b ^ (j + 1) → ∃ k,Dg b k n := by
  intro j
  induction j with
  | zero => intro h; exact ⟨1,Nat.le_refl _,h,.inl rfl⟩
  | succ j ih =>
   intro h
   by_cases h2 : n < b ^ (j + 1)
   ·exact ih h2
   ·exact ⟨j + 2,by omega,h,.inr (by show b ^ (j + 1) ≤ n; omega)⟩
 refine key n ?_
 have : n < b ^ n := Nat.lt_pow_self hb
 have h2 : b ^ n ≤ b ^ (n + 1) := Nat.pow_le_pow_right (by omega) (by omega)
 omega
theorem dg_div {b k n : Nat} (hb : 2 ≤ b) (h : Dg b (k + 2) n) : Dg b (k + 1) (n / b) ∧ 0 < n / b := by
 obtain ⟨_,h2,h3⟩ := h
 have h3 : b ^ (k + 1) ≤ n := h3.elim (fun e => by omega) (fun e => e)
 have h4 : n / b < b ^ (k + 1) := by rw [Nat.div_lt_iff_lt_mul (by omega)]; rw [Nat.pow_succ] at h2; exact h2
 have h5 : b ^ k ≤ n / b := by rw [Nat.le_div_iff_mul_le (by omega)]; rw [Nat.pow_succ] at h3; exact h3
 have h6 : 0 < b ^ k := Nat.pow_pos (by omega)
 exact ⟨⟨by omega,h4,.inr h5⟩,by omega⟩
theorem dg_le {b k n : Nat} (h : Dg b k n) {j : Nat} (hj : n < b ^ j) (hb : 2 ≤ b) (h1 : 1 ≤ j) : k ≤ j := by
 rcases h.2.2 with e | e
 ·omega
 ·have : b ^ (k - 1) < b ^ j := by omega
  have := (Nat.pow_lt_pow_iff_right (a := b) (by omega)).1 this
  omega
theorem dc16 : ∀ k : Nat,k < 16 → ([48,49,50,51,52,53,54,55,56,57,97,98,99,100,101,102] : List UInt8)[k]? = some (dc k) := by decide
theorem Digits_loop (b : Nat) (hb : 2 ≤ b ∧ b ≤ 16) : ∀ k n (s : List UInt8),Dg b (k + 1) n → n < 9223372036854775808 → s.length + k + 1 ≤ 1000000 → loopO (fun s => ref27_Digits_l1 (b : Int) s.1 s.2) ((n : Int),s) = some (pd b (k + 1) n ++ s) := by
 intro k
 induction k with
 | zero =>
  intro n s hd hn hs
  have hlt : n < b := by simpa using hd.2.1
  refine loop_end ?_
  show ref27_Digits_l1 (b : Int) (n : Int) s = _
  unfold ref27_Digits_l1
  rw [chk_d (by omega),show Int.tmod (n : Int) (b : Int) = ((n % b : Nat) : Int) from rfl,show Int.tdiv (n : Int) (b : Int) = ((n / b : Nat) : Int) from rfl,idx_ok (dc16 (n % b) (by have := Nat.mod_lt n (show 0 < b by omega); omega))]
  simp only [Option.bind_some]
  rw [cat_ok (by simp only [List.length_cons,List.length_nil]; omega)]
  have h0 : n / b = 0 := Nat.div_eq_of_lt hlt
  simp only [Option.bind_some]
  rw [h0,wI (by omega)]
  simp [pd,h0]
 | succ k ih =>
  intro n s hd hn hs
  obtain ⟨h1,h2⟩ := dg_div hb.1 hd
  have h3 : n / b ≤ n := Nat.div_le_self _ _
  refine (loop_next (s' := (((n / b : Nat) : Int),[dc (n % b)] ++ s)) ?_).trans ?_
  ·show ref27_Digits_l1 (b : Int) (n : Int) s = _
   unfold ref27_Digits_l1
   rw [chk_d (by omega),show Int.tmod (n : Int) (b : Int) = ((n % b : Nat) : Int) from rfl,show Int.tdiv (n : Int) (b : Int) = ((n / b : Nat) : Int) from rfl,idx_ok (dc16 (n % b) (by have := Nat.mod_lt n (show 0 < b by omega); omega))]
   simp only [Option.bind_some]
   rw [cat_ok (by simp only [List.length_cons,List.length_nil]; omega)]
   simp only [Option.bind_some]
   rw [wI (by omega),show (((n / b : Nat) : Int) == 0) = false from by simpa using by omega]
   rfl
  ·rw [ih (n / b) _ h1 (by omega) (by simp only [List.length_append,List.length_cons,List.length_nil]; omega)]
   rw [pd_succ b (k + 1) n,List.append_assoc]
theorem Digits_ok {b k n : Nat} (hb : 2 ≤ b ∧ b ≤ 16) (hd : Dg b k n) (hn : n < 9223372036854775808) : ref27_Digits (n : Int) (b : Int) = some (pd b k n) := by
 obtain ⟨j,rfl⟩ : ∃ j,k = j + 1 := ⟨k - 1,by have := hd.1; omega⟩
 have hk : j + 1 ≤ 64 := dg_le hd (j := 64) (by have : (2:Nat) ^ 64 ≤ b ^ 64 := Nat.pow_le_pow_left hb.1 _; omega) hb.1 (by omega)
 have := Digits_loop b hb j n [] hd hn (by simp; omega)
 rw [List.append_nil] at this
 exact this
theorem set_drop {α : Type} (a : List α) (j : Nat) (c : α) (h : j < a.length) : (a.set j c).drop j = c :: a.drop (j + 1) := by
 rw [List.drop_eq_getElem_cons (by simpa using h),List.getElem_set_self,List.drop_set_of_lt (by omega)]
theorem dc36 : ∀ k : Nat,k < 10 → ([48,49,50,51,52,53,54,55,56,57,97,98,99,100,101,102,103,104,105,106,107,108,109,110,111,112,113,114,115,116,117,118,119,120,121,122] : List UInt8)[k]? = some (dc k) := by decide
theorem and7 (u : UInt64) : (u &&& ((UInt64.ofInt 8) - (1 : UInt64))).toNat = u.toNat % 8 := by
 rw [show (UInt64.ofInt 8) - (1 : UInt64) = 7 from by decide,UInt64.toNat_and]
 exact Nat.and_two_pow_sub_one_eq_mod u.toNat 3
theorem shr3 (u : UInt64) : (shr64 u ((UInt64.ofInt 3).toNat : Int)).toNat = u.toNat / 8 := by
 unfold shr64
 rw [show (UInt64.ofInt 3).toNat = 3 from by decide]
 have := u.toNat_lt
 simp only [Int.toNat_natCast,show min 3 64 = 3 from rfl,UInt64.toNat_ofNat']
 omega
theorem bits_loop : ∀ k j (u : UInt64) (a : List UInt8),Dg 8 (k + 1) u.toNat → k + 1 ≤ j → j ≤ 65 → a.length = 65 →
  ∃ u' a',loopO (fun s => internal_strconv_formatBits_l1 8 3 s.1 s.2.1 s.2.2) (u,a,(j : Int)) = some (u',a',((j - k : Nat) : Int)) ∧ a'.length = 65 ∧ u'.toNat < 8 ∧ dc u'.toNat :: a'.drop (j - k) = pd 8 (k + 1) u.toNat ++ a.drop j := by
 intro k
 induction k with
 | zero =>
  intro j u a hd h1 h2 ha
  have hlt : u.toNat < 8 := by simpa using hd.2.1
  refine ⟨u,a,loop_end ?_,ha,hlt,?_⟩
  ·show internal_strconv_formatBits_l1 8 3 u a (j : Int) = _
   unfold internal_strconv_formatBits_l1
   rw [show (UInt64.ofInt 8).toNat = 8 from by decide,decide_eq_false (by omega)]
   rfl
  ·rw [Nat.sub_zero]
   simp [pd,Nat.mod_eq_of_lt hlt]
 | succ k ih =>
  intro j u a hd h1 h2 ha
  obtain ⟨h3,h4⟩ := dg_div (by omega) hd
  have e := shr3 u
  obtain ⟨u',a',h5,h6,h7,h8⟩ := ih (j - 1) (shr64 u ((UInt64.ofInt 3).toNat : Int)) (a.set (j - 1) (dc (u.toNat % 8))) (by rw [e]; exact h3) (by omega) (by omega) (by simpa using ha)
  refine ⟨u',a',(loop_next (s' := (shr64 u ((UInt64.ofInt 3).toNat : Int),a.set (j - 1) (dc (u.toNat % 8)),((j - 1 : Nat) : Int))) ?_).trans (h5.trans ?_),h6,h7,?_⟩
  ·show internal_strconv_formatBits_l1 8 3 u a (j : Int) = _
   unfold internal_strconv_formatBits_l1
   rw [show (UInt64.ofInt 8).toNat = 8 from by decide,decide_eq_true (by omega),cond_true,and7,idx_ok (dc36 _ (by omega)),Option.bind_some,wI (by omega),show ((j : Int) - 1) = ((j - 1 : Nat) : Int) by omega,idx_ok (List.getElem?_eq_getElem (by omega)),Option.bind_some,chk_d (by omega)]
   rfl
  ·rw [show j - 1 - k = j - (k + 1) by omega]
  ·rw [show j - (k + 1) = j - 1 - k by omega,h8,e,set_drop _ _ _ (by omega),pd_succ 8 (k + 1) u.toNat,List.append_assoc,show j - 1 + 1 = j by omega]
   rfl
theorem tz8 : math_bits_TrailingZeros (UInt64.ofInt 8) = some 3 := by decide +kernel
theorem p8 : internal_strconv_isPowerOfTwo 8 = true := by decide +kernel
theorem formatBits_ok {k : Nat} {u : UInt64} (dst : List UInt8) (hd : Dg 8 k u.toNat) (hl : dst.length + 64 ≤ 137438953472) : internal_strconv_formatBits dst u 8 false true = some (dst ++ pd 8 k u.toNat,[]) := by
 obtain ⟨j,rfl⟩ : ∃ j,k = j + 1 := ⟨k - 1,by have := hd.1; omega⟩
 have hk : j + 1 ≤ 22 := dg_le hd (j := 22) (by have := u.toNat_lt; omega) (by omega) (by omega)
 obtain ⟨u',a',h1,h2,h3,h4⟩ := bits_loop j 65 u (List.replicate 65 0) hd (by omega) (by omega) (by simp)
 unfold internal_strconv_formatBits
 rw [show decide ((8 : Int) < 2) = false from rfl,show ((8 : Int) == 10) = false from rfl,show decide ((8 : Int) > 36) = false from rfl]
 simp only [cond_false,cond_true,lt_eq,p8,tz8,Option.bind_some]
 rw [show ((65 : Int)) = ((65 : Nat) : Int) from rfl,h1]
 simp only [Option.bind_some]
 rw [idx_ok (dc36 _ (by omega)),Option.bind_some,wI (by omega),show (((65 - j : Nat) : Int) - 1) = ((64 - j : Nat) : Int) by omega,idx_ok (List.getElem?_eq_getElem (show 64 - j < a'.length by omega)),Option.bind_some,chk_d (by omega),Option.bind_some]
 have hlen : (a'.set (64 - j) (dc u'.toNat)).length = 65 := by simpa using h2
 simp only [Int.toNat_natCast]
 rw [chk_d hlen,Option.bind_some,hlen,slc_ok (by rw [hlen]; omega),Option.bind_some,Int.toNat_natCast,Int.toNat_natCast,List.take_of_length_le (by omega),set_drop _ _ _ (by omega),show 64 - j + 1 = 65 - j by omega,h4]
 rw [show (List.replicate 65 (0 : UInt8)).drop 65 = [] from rfl,List.append_nil]
 rw [app_ok (by rw [pd_len]; omega)]
 rfl
theorem AppendUint8 {k : Nat} {u : UInt64} (dst : List UInt8) (hd : Dg 8 k u.toNat) (hl : dst.length + 64 ≤ 137438953472) : internal_strconv_AppendUint dst u 8 = some (dst ++ pd 8 k u.toNat) := by
 unfold internal_strconv_AppendUint
 rw [show ((8 : Int) == 10) = false from rfl,cond_false,formatBits_ok dst hd hl]
 rfl
end Go.Proofs.YtebbaokcgnjfiaaDoor.F
