import Derived.Test.YtebbaokcgnjfiaaDoorLBDig
set_option linter.unusedVariables false
set_option linter.unusedSimpArgs false
namespace Go.Proofs.YtebbaokcgnjfiaaDoor.F
open Go Go.RowKit Go.Proofs.YtebbaokcgnjfiaaDoor.K
abbrev L256 : List UInt8 := [0,1,2,2,3,3,3,3,4,4,4,4,4,4,4,4,5,5,5,5,5,5,5,5,5,5,5,5,5,5,5,5,6,6,6,6,6,6,6,6,6,6,6,6,6,6,6,6,6,6,6,6,6,6,6,6,6,6,6,6,6,6,6,6,7,7,7,7,7,7,7,7,7,7,7,7,7,7,7,7,7,7,7,7,7,7,7,7,7,7,7,7,7,7,7,7,7,7,7,7,7,7,7,7,7,7,7,7,7,7,7,7,7,7,7,7,7,7,7,7,7,7,7,7,7,7,7,7,8,8,8,8,8,8,8,8,8,8,8,8,8,8,8,8,8,8,8,8,8,8,8,8,8,8,8,8,8,8,8,8,8,8,8,8,8,8,8,8,8,8,8,8,8,8,8,8,8,8,8,8,8,8,8,8,8,8,8,8,8,8,8,8,8,8,8,8,8,8,8,8,8,8,8,8,8,8,8,8,8,8,8,8,8,8,8,8,8,8,8,8,8,8,8,8,8,8,8,8,8,8,8,8,8,8,8,8,8,8,8,8,8,8,8,8,8,8,8,8,8,8,8,8,8,8,8,8]
theorem l256 : ∀ k : Nat,k < 256 → 1 ≤ k → ∃ c ∈ List.range 9,L256[k]? = some (UInt8.ofNat c) ∧ 1 ≤ c ∧ 2 ^ (c - 1) ≤ k ∧ k < 2 ^ c := by decide +kernel
theorem lift256 {x s : Nat} (h1 : 2 ^ s ≤ x) (h2 : x < 2 ^ (s + 8)) : ∃ c : Nat,L256[x / 2 ^ s]? = some (UInt8.ofNat c) ∧ c ≤ 8 ∧ 1 ≤ s + c ∧ 2 ^ (s + c - 1) ≤ x ∧ x < 2 ^ (s + c) := by
 have hp : 0 < 2 ^ s := Nat.pow_pos (by omega)
 have h3 : x / 2 ^ s < 256 := by rw [Nat.div_lt_iff_lt_mul hp]; rw [Nat.pow_add] at h2; omega
 have h4 : 1 ≤ x / 2 ^ s := by rw [Nat.le_div_iff_mul_le hp]; omega
 obtain ⟨c,hm,hc,hc1,hlo,hhi⟩ := l256 _ h3 h4
 refine ⟨c,hc,by have := List.mem_range.1 hm; omega,by omega,?_,?_⟩
 ·have := (Nat.le_div_iff_mul_le hp).1 hlo
  rw [show s + c - 1 = (c - 1) + s by omega,Nat.pow_add]; exact this
 ·have := (Nat.div_lt_iff_lt_mul hp).1 hhi
  rw [show s + c = c + s by omega,Nat.pow_add]; exact this
theorem sh64 (x : UInt64) (k : Nat) (hk : k ≤ 64) : (shr64 x (k : Int)).toNat = x.toNat / 2 ^ k := by
 unfold shr64
 have := x.toNat_lt
 have hd := Nat.div_le_self x.toNat (2 ^ k)
 rw [Int.toNat_natCast,Nat.min_eq_left hk,UInt64.toNat_ofNat']
 exact Nat.mod_eq_of_lt (by omega)
theorem c8 {c : Nat} (h : c ≤ 8) : ((UInt8.ofNat c).toNat : Int) = (c : Int) := by rw [UInt8.toNat_ofNat']; omega
theorem sh0 {x : UInt64} {s : Nat} {y : UInt64} (hy : y.toNat = x.toNat / 2 ^ s) (h : x.toNat < 2 ^ (s + 8)) : y.toUInt8.toNat = x.toNat / 2 ^ s := by
 have h3 : x.toNat / 2 ^ s < 256 := by rw [Nat.div_lt_iff_lt_mul (Nat.pow_pos (by omega))]; rw [Nat.pow_add] at h; omega
 rw [UInt64.toNat_toUInt8,hy]
 omega
theorem Len64_ok (x : UInt64) (hx : 1 ≤ x.toNat) : ∃ L : Nat,math_bits_Len64 x = some (L : Int) ∧ 1 ≤ L ∧ L ≤ 64 ∧ 2 ^ (L - 1) ≤ x.toNat ∧ x.toNat < 2 ^ L := by
 have key : ∀ (s : Nat) (y : UInt64),s ≤ 56 → y.toNat = x.toNat / 2 ^ s → 2 ^ s ≤ x.toNat → x.toNat < 2 ^ (s + 8) → ∃ L : Nat,(Option.bind (idx L256 (y.toUInt8.toNat : Int)) fun c => some ((s : Int) + (c.toNat : Int))) = some (L : Int) ∧ 1 ≤ L ∧ L ≤ 64 ∧ 2 ^ (L - 1) ≤ x.toNat ∧ x.toNat < 2 ^ L := by
  intro s y hs hy h1 h2
  obtain ⟨c,h3,h4,h5,h6,h7⟩ := lift256 h1 h2
  refine ⟨s + c,?_,h5,by omega,h6,h7⟩
  rw [sh0 hy h2,idx_ok h3,Option.bind_some,c8 h4]
  rfl
 have hx2 := x.toNat_lt
 have e32 : (shr64 x 32).toNat = x.toNat / 2 ^ 32 := sh64 x 32 (by omega)
 have e48 : (shr64 (shr64 x 32) 16).toNat = (shr64 x 32).toNat / 2 ^ 16 := sh64 _ 16 (by omega)
 have e56 : (shr64 (shr64 (shr64 x 32) 16) 8).toNat = (shr64 (shr64 x 32) 16).toNat / 2 ^ 8 := sh64 _ 8 (by omega)
 have e40 : (shr64 (shr64 x 32) 8).toNat = (shr64 x 32).toNat / 2 ^ 8 := sh64 _ 8 (by omega)
 have e16 : (shr64 x 16).toNat = x.toNat / 2 ^ 16 := sh64 x 16 (by omega)
 have e24 : (shr64 (shr64 x 16) 8).toNat = (shr64 x 16).toNat / 2 ^ 8 := sh64 _ 8 (by omega)
 have e8 : (shr64 x 8).toNat = x.toNat / 2 ^ 8 := sh64 x 8 (by omega)
 rw [e48,e32] at e56
 rw [e32] at e48 e40
 rw [e16] at e24
 simp only [Nat.div_div_eq_div_mul] at e56 e48 e40 e24
 unfold math_bits_Len64
 rw [e48,e32,e16]
 by_cases a1 : 4294967296 ≤ x.toNat
 ·rw [decide_eq_true (by omega),cond_true]
  by_cases a2 : 65536 ≤ x.toNat / 2 ^ 32
  ·rw [decide_eq_true (by omega),cond_true]
   by_cases a3 : 256 ≤ x.toNat / (2 ^ 32 * 2 ^ 16)
   ·rw [decide_eq_true (by omega),cond_true]; exact key 56 _ (by omega) (by rw [e56]) (by omega) (by omega)
   ·rw [decide_eq_false (by omega),cond_false]; exact key 48 _ (by omega) (by rw [e48]) (by omega) (by omega)
  ·rw [decide_eq_false (by omega),cond_false]
   by_cases a3 : 256 ≤ x.toNat / 2 ^ 32
   ·rw [decide_eq_true (by omega),cond_true]; exact key 40 _ (by omega) (by rw [e40]) (by omega) (by omega)
   ·rw [decide_eq_false (by omega),cond_false]; exact key 32 _ (by omega) (by rw [e32]) (by omega) (by omega)
 ·rw [decide_eq_false (by omega),cond_false]
  by_cases a2 : 65536 ≤ x.toNat
  ·rw [decide_eq_true (by omega),cond_true]
   by_cases a3 : 256 ≤ x.toNat / 2 ^ 16
   ·rw [decide_eq_true (by omega),cond_true]; exact key 24 _ (by omega) (by rw [e24]) (by omega) (by omega)
   ·rw [decide_eq_false (by omega),cond_false]; exact key 16 _ (by omega) (by rw [e16]) (by omega) (by omega)
  ·rw [decide_eq_false (by omega),cond_false]
   by_cases a3 : 256 ≤ x.toNat
   ·rw [decide_eq_true (by omega),cond_true]; exact key 8 _ (by omega) (by rw [e8]) (by omega) (by omega)
   ·rw [decide_eq_false (by omega),cond_false]; exact key 0 _ (by omega) (by simp) (by omega) (by omega)
theorem logs : ∀ L : Nat,L < 65 → 1 ≤ L → internal_strconv_log10Pow2 (L : Int) = ((L * 78913 / 262144 : Nat) : Int) ∧ tab0[L * 78913 / 262144]? = some (UInt64.ofNat (10 ^ (L * 78913 / 262144))) ∧ 10 ^ (L * 78913 / 262144) < 2 ^ 64 ∧ 2 ^ L ≤ 10 ^ (L * 78913 / 262144 + 1) ∧ (L * 78913 / 262144 = 0 ∨ 10 ^ (L * 78913 / 262144 - 1) ≤ 2 ^ (L - 1)) ∧ L * 78913 / 262144 ≤ 19 := by decide +kernel
theorem numDigits_ok {k : Nat} {u : UInt64} (h1 : 1 ≤ u.toNat) (hd : Dg 10 k u.toNat) : internal_strconv_numDigits u = some (k : Int) := by
 obtain ⟨L,h2,h3,h4,h5,h6⟩ := Len64_ok u h1
 obtain ⟨g1,g2,g3,g4,g5,g6⟩ := logs L (by omega) h3
 obtain ⟨t,ht⟩ : ∃ t,t = L * 78913 / 262144 := ⟨_,rfl⟩
 rw [← ht] at g1 g2 g3 g4 g5 g6
 have ep : (UInt64.ofNat (10 ^ t)).toNat = 10 ^ t := by rw [UInt64.toNat_ofNat']; exact Nat.mod_eq_of_lt g3
 have uniq : ∀ j,Dg 10 j u.toNat → j = k := fun j hj => by
  have a := dg_le hd hj.2.1 (by omega) hj.1
  have b := dg_le hj hd.2.1 (by omega) hd.1
  omega
 unfold internal_strconv_numDigits
 rw [h2,Option.bind_some,g1,idx_ok g2,Option.bind_some,ep]
 by_cases hc : 10 ^ t ≤ u.toNat
 ·rw [decide_eq_true (by omega),show internal_strconv_bool2 true = 1 from rfl,wI (by omega)]
  have := uniq (t + 1) ⟨by omega,by omega,.inr hc⟩
  rw [← this]
  rfl
 ·rw [decide_eq_false (by omega),show internal_strconv_bool2 false = 0 from rfl,wI (by omega)]
  have ht0 : t ≠ 0 := by intro e; rw [e] at hc; simp at hc; omega
  have := uniq t ⟨by omega,by omega,.inr (by have := g5.resolve_left ht0; omega)⟩
  rw [← this]
  simp
abbrev L200 : List UInt8 := [48,48,48,49,48,50,48,51,48,52,48,53,48,54,48,55,48,56,48,57,49,48,49,49,49,50,49,51,49,52,49,53,49,54,49,55,49,56,49,57,50,48,50,49,50,50,50,51,50,52,50,53,50,54,50,55,50,56,50,57,51,48,51,49,51,50,51,51,51,52,51,53,51,54,51,55,51,56,51,57,52,48,52,49,52,50,52,51,52,52,52,53,52,54,52,55,52,56,52,57,53,48,53,49,53,50,53,51,53,52,53,53,53,54,53,55,53,56,53,57,54,48,54,49,54,50,54,51,54,52,54,53,54,54,54,55,54,56,54,57,55,48,55,49,55,50,55,51,55,52,55,53,55,54,55,55,55,56,55,57,56,48,56,49,56,50,56,51,56,52,56,53,56,54,56,55,56,56,56,57,57,48,57,49,57,50,57,51,57,52,57,53,57,54,57,55,57,56,57,57]
theorem l200 : ∀ k : Nat,k < 100 → L200[2 * k]? = some (dc (k / 10)) ∧ L200[2 * k + 1]? = some (dc (k % 10)) := by decide +kernel
theorem small_ok : ∀ k : Nat,k < 100 → internal_strconv_small (k : Int) = some (if k < 10 then pd 10 1 k else pd 10 2 k) := by decide +kernel
theorem o32 {x : Nat} (h : x < 4294967296) : ((UInt32.ofInt (x : Int)).toNat : Int) = (x : Int) := by rw [← q32_wrap]; simp [IntKind.wrap,IntKind.bits,IntKind.signed]; omega
theorem o8 {x : Nat} (h : x < 10) : UInt8.ofInt ((48 + x : Nat) : Int) = dc x := by
 have : ∀ x : Nat,x < 10 → UInt8.ofInt ((48 + x : Nat) : Int) = dc x := by decide
 exact this x h
end Go.Proofs.YtebbaokcgnjfiaaDoor.F
