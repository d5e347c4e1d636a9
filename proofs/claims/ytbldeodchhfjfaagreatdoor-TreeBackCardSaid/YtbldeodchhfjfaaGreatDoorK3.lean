/- Plain laws: numbers in bytes, the lowest first. -/
import Derived.Laws.BitsLemmas
set_option linter.unusedVariables false
set_option linter.unusedSimpArgs false
namespace Go.Proofs.YtbldeodchhfjfaaGreatDoor.K
open Go

/-- The number that bytes tell, the lowest first. -/
def le : List UInt8 → Nat
  | [] => 0
  | b :: r => b.toNat + 256 * le r

/-- A number's bytes. -/
def enc : Nat → Nat → List UInt8
  | 0, _ => []
  | w + 1, n => UInt8.ofNat n :: enc w (n / 256)

theorem le_lt : ∀ l : List UInt8, le l < 256 ^ l.length
  | [] => by simp [le]
  | b :: r => by
    have h1 := b.toNat_lt
    have h2 := le_lt r
    simp only [le, List.length_cons, Nat.pow_succ]
    omega
theorem le_append : ∀ a b : List UInt8, le (a ++ b) = le a + 256 ^ a.length * le b
  | [], b => by simp [le]
  | x :: a, b => by
    simp only [List.cons_append, le, le_append a b, List.length_cons, Nat.pow_succ, Nat.mul_add]
    rw [show 256 ^ a.length * 256 * le b = 256 * (256 ^ a.length * le b) by rw [Nat.mul_comm (256 ^ a.length) 256, Nat.mul_assoc]]
    omega
theorem le_take_succ (l : List UInt8) (i : Nat) (h : i < l.length) : le (l.take (i + 1)) = le (l.take i) + 256 ^ i * (l.getD i 0).toNat := by
  rw [List.take_succ_eq_append_getElem h, le_append]
  simp [le, List.length_take, Nat.min_eq_left (Nat.le_of_lt h), List.getD_eq_getElem?_getD, h]
theorem le_take_lt (l : List UInt8) (i : Nat) : le (l.take i) < 256 ^ i := by
  have h := le_lt (l.take i)
  have h2 : (l.take i).length ≤ i := List.length_take_le _ _
  exact Nat.lt_of_lt_of_le h (Nat.pow_le_pow_right (by decide) h2)
@[simp] theorem enc_length : ∀ w n, (enc w n).length = w
  | 0, _ => rfl
  | w + 1, n => by simp [enc, enc_length w]
theorem ofNat_toNat (n : Nat) : (UInt8.ofNat n).toNat = n % 256 := by simp
theorem enc_snoc : ∀ w n, enc (w + 1) n = enc w n ++ [UInt8.ofNat (n / 256 ^ w)]
  | 0, n => by simp [enc]
  | w + 1, n => by
    rw [enc, enc_snoc w (n / 256), enc, List.cons_append, Nat.div_div_eq_div_mul, Nat.pow_succ, Nat.mul_comm (256 ^ w)]
theorem le_enc : ∀ w n, le (enc w n) = n % 256 ^ w
  | 0, n => by simp [enc, le, Nat.mod_one]
  | w + 1, n => by
    rw [enc, le, le_enc w, ofNat_toNat, Nat.pow_succ, Nat.mul_comm (256 ^ w), Nat.mod_mul]
theorem enc_le : ∀ l : List UInt8, enc l.length (le l) = l
  | [] => rfl
  | b :: r => by
    have h := b.toNat_lt
    have e1 : (b.toNat + 256 * le r) / 256 = le r := by omega
    have e2 : UInt8.ofNat (b.toNat + 256 * le r) = b := by
      apply UInt8.toNat_inj.1
      rw [ofNat_toNat]
      omega
    simp only [List.length_cons, le, enc, e1, enc_le r, e2]
theorem pow256 (i : Nat) : (2 : Nat) ^ (8 * i) = 256 ^ i := by rw [Nat.pow_mul]
theorem ipow256 (i : Nat) : (2 : Int) ^ (8 * i) = ((256 ^ i : Nat) : Int) := by rw [← pow256]; simp

/-- n | b << 8i, n below 256^i. -/
theorem or_shift (n b i : Nat) (hn : n < 256 ^ i) (hb : b < 256) (hi : i < 8) : Go.bits .or .u64 (n : Int) ((b : Int) * 2 ^ (8 * i)) = ((n + 256 ^ i * b : Nat) : Int) := by
  have h256 : 256 ^ i * 256 ≤ 18446744073709551616 := by
    have : 256 ^ (i + 1) ≤ 256 ^ 8 := Nat.pow_le_pow_right (by decide) (by omega)
    rw [Nat.pow_succ] at this
    omega
  have hy : (b : Int) * 2 ^ (8 * i) = ((256 ^ i * b : Nat) : Int) := by rw [ipow256, Nat.mul_comm]; simp
  have hlt : 256 ^ i * b < 18446744073709551616 := by
    have : 256 ^ i * b < 256 ^ i * 256 := Nat.mul_lt_mul_of_pos_left hb (Nat.pow_pos (by decide))
    omega
  have hwr : ∀ n : Int, 0 ≤ n → n < 2 ^ 64 → IntKind.u64.wrap n = n := by
    intro n h0 h1
    simp [IntKind.wrap, IntKind.bits, IntKind.signed]
    omega
  rw [hy, (bits_nat .u64 64 (by decide) hwr n (256 ^ i * b) (by omega) (by omega)).2]
  congr 1
  rw [Nat.or_comm]
  have := Nat.two_pow_add_eq_or_of_lt (i := 8 * i) (b := n) (by rw [pow256]; exact hn) b
  rw [pow256] at this
  omega
theorem shift_lt (b i : Nat) (hb : b < 256) (hi : i < 8) : 0 ≤ (b : Int) * 2 ^ (8 * i) ∧ (b : Int) * 2 ^ (8 * i) < 18446744073709551616 := by
  have hy : (b : Int) * 2 ^ (8 * i) = ((256 ^ i * b : Nat) : Int) := by rw [ipow256, Nat.mul_comm]; simp
  have h256 : 256 ^ i * 256 ≤ 18446744073709551616 := by
    have : 256 ^ (i + 1) ≤ 256 ^ 8 := Nat.pow_le_pow_right (by decide) (by omega)
    rw [Nat.pow_succ] at this
    omega
  have : 256 ^ i * b < 256 ^ i * 256 := Nat.mul_lt_mul_of_pos_left hb (Nat.pow_pos (by decide))
  rw [hy]
  omega
/-- byte(n >> 8i) -/
theorem shr_byte (n i : Nat) : IntKind.u8.wrap ((n : Int) / 2 ^ (8 * i)) = ((UInt8.ofNat (n / 256 ^ i)).toNat : Int) := by
  rw [ipow256, ofNat_toNat]
  simp [IntKind.wrap, IntKind.bits, IntKind.signed]
theorem wrap_byte (n : Nat) : IntKind.u8.wrap (n : Int) = ((UInt8.ofNat n).toNat : Int) := by
  rw [ofNat_toNat]
  simp [IntKind.wrap, IntKind.bits, IntKind.signed]

def wideB (a : Int) : Bool := a == 1 || a == 2 || a == 4 || a == 8
def withinB (len : Nat) (a b : Int) : Bool := decide (0 ≤ a) && decide (0 ≤ b) && decide (b ≤ len) && decide (a ≤ len - b)
def fitsB (n : Nat) (w : Nat) : Bool := decide (n < 256 ^ w)
theorem fits_shr (n m : Nat) : ((n : Int) / 2 ^ (8 * m) == 0) = fitsB n m := by
  rw [ipow256, fitsB]
  have hp : 0 < 256 ^ m := Nat.pow_pos (by decide)
  rw [show ((n : Int) / ((256 ^ m : Nat) : Int)) = ((n / 256 ^ m : Nat) : Int) from (Int.natCast_ediv _ _).symm]
  rw [Bool.eq_iff_iff]
  simp only [beq_iff_eq, decide_eq_true_eq]
  rw [← Nat.div_eq_zero_iff_lt hp]
  omega
theorem fits8 {n : Nat} (h : n < 18446744073709551616) : fitsB n 8 = true := by simpa [fitsB] using h
theorem p256 (j : Nat) (h : j < 8) : 256 ^ j ≤ 72057594037927936 := by
  have : 256 ^ j ≤ 256 ^ 7 := Nat.pow_le_pow_right (by decide) (by omega)
  simpa using this
theorem le_down (l : List UInt8) (a wd j : Nat) (h : a + wd ≤ l.length) (hj : j < wd) :
    le ((l.drop (a + (wd - j))).take j) * 256 + (l.getD (a + (wd - 1 - j)) 0).toNat = le ((l.drop (a + (wd - (j + 1)))).take (j + 1)) := by
  have e : a + (wd - (j + 1)) = a + (wd - 1 - j) := by omega
  have hlt : a + (wd - 1 - j) < l.length := by omega
  rw [e, List.drop_eq_getElem_cons hlt, List.take_succ_cons, le, List.getD_eq_getElem?_getD, List.getElem?_eq_getElem hlt, show a + (wd - 1 - j) + 1 = a + (wd - j) by omega]
  simp only [Option.getD_some]
  omega
theorem wrap_mod_byte (n : Nat) : IntKind.u8.wrap ((n % 256 : Nat) : Int) = ((UInt8.ofNat n).toNat : Int) := by
  rw [ofNat_toNat]
  simp [IntKind.wrap, IntKind.bits, IntKind.signed]
/-- n divided so often by 256. -/
def dv (n : Nat) : Nat → Nat
  | 0 => n
  | i + 1 => dv n i / 256
theorem div_pow_succ (n i : Nat) : n / 256 ^ i / 256 = n / 256 ^ (i + 1) := by rw [Nat.div_div_eq_div_mul, Nat.pow_succ]
theorem fits_div (n m : Nat) : (((n / 256 ^ m : Nat) : Int) == 0) = fitsB n m := by
  have hp : 0 < 256 ^ m := Nat.pow_pos (by decide)
  rw [fitsB, Bool.eq_iff_iff]
  simp only [beq_iff_eq, decide_eq_true_eq]
  rw [← Nat.div_eq_zero_iff_lt hp]
  omega
theorem dv_eq (n : Nat) : ∀ i, dv n i = n / 256 ^ i
  | 0 => by simp [dv]
  | i + 1 => by rw [dv, dv_eq n i, div_pow_succ]
theorem dv_lt (n i : Nat) (h : n < 18446744073709551616) : dv n i < 18446744073709551616 := by
  rw [dv_eq]
  exact Nat.lt_of_le_of_lt (Nat.div_le_self _ _) h
theorem div_lt (n i : Nat) (h : n < 18446744073709551616) : n / 256 ^ i < 18446744073709551616 := Nat.lt_of_le_of_lt (Nat.div_le_self _ _) h
def getN (l : List UInt8) (a wd : Int) : Nat := if wideB wd = true then (if withinB l.length a wd = true then le ((l.drop a.toNat).take wd.toNat) else 0) else 0
def getE (len : Nat) (a wd : Int) : Int := if wideB wd = true then (if withinB len a wd = true then 0 else 9) else 1
def putE (n : Nat) (wd : Int) : Int := if wideB wd = true then (if fitsB n wd.toNat = true then 0 else 9) else 1
def putL (l : List UInt8) (n : Nat) (wd : Int) : List UInt8 := if putE n wd = 0 then l ++ enc wd.toNat n else []
def setE (len : Nat) (a : Int) (n : Nat) (wd : Int) : Int := if wideB wd = true then (if withinB len a wd = true then (if fitsB n wd.toNat = true then 0 else 9) else 9) else 1
def setL (l : List UInt8) (a : Int) (n : Nat) (wd : Int) : List UInt8 := if setE l.length a n wd = 0 then l.take a.toNat ++ enc wd.toNat n ++ l.drop (a.toNat + wd.toNat) else []
def partE (len : Nat) (a n : Int) : Int := if withinB len a n = true then 0 else 9
def partL (l : List UInt8) (a n : Int) : List UInt8 := if withinB l.length a n = true then (l.drop a.toNat).take n.toNat else []
theorem wide_of {a : Int} (h : wideB a = true) : a = 1 ∨ a = 2 ∨ a = 4 ∨ a = 8 := by
  simp only [wideB, Bool.or_eq_true, beq_iff_eq] at h
  omega
theorem within_of {len : Nat} {a b : Int} (h : withinB len a b = true) : 0 ≤ a ∧ 0 ≤ b ∧ a + b ≤ len := by
  simp only [withinB, Bool.and_eq_true, decide_eq_true_eq] at h
  omega
theorem within_iff {len : Nat} {a b : Int} : withinB len a b = true ↔ 0 ≤ a ∧ 0 ≤ b ∧ a + b ≤ len := by
  simp only [withinB, Bool.and_eq_true, decide_eq_true_eq]
  omega
theorem setE_zero {len : Nat} {a : Int} {n : Nat} {wd : Int} (h : setE len a n wd = 0) : wideB wd = true ∧ withinB len a wd = true ∧ fitsB n wd.toNat = true := by
  unfold setE at h
  split at h
  · split at h
    · split at h
      · exact ⟨‹_›, ‹_›, ‹_›⟩
      · cases h
    · cases h
  · cases h
theorem setL_of {l : List UInt8} {a : Int} {n : Nat} {wd : Int} (h : setE l.length a n wd = 0) : setL l a n wd = l.take a.toNat ++ enc wd.toNat n ++ l.drop (a.toNat + wd.toNat) := by rw [setL, if_pos h]
theorem setL_no {l : List UInt8} {a : Int} {n : Nat} {wd : Int} (h : setE l.length a n wd ≠ 0) : setL l a n wd = [] := by rw [setL, if_neg h]
theorem setL_len {l : List UInt8} {a : Int} {n : Nat} {wd : Int} (h : setE l.length a n wd = 0) : (setL l a n wd).length = l.length := by
  have := within_of (setE_zero h).2.1
  rw [setL_of h]
  simp [enc_length]
  omega
theorem setL_get {l : List UInt8} {a : Int} {n : Nat} {wd : Int} (h : setE l.length a n wd = 0) : getN (setL l a n wd) a wd = n := by
  obtain ⟨h1, h2, h3⟩ := setE_zero h
  have h4 := within_of h2
  rw [getN, if_pos h1, setL_len h, if_pos h2, setL_of h]
  have hl : (l.take a.toNat).length = a.toNat := by simp; omega
  rw [List.append_assoc, List.drop_append, List.drop_eq_nil_of_le (by omega), hl, Nat.sub_self, List.drop_zero, List.nil_append, List.take_append_of_le_length (by rw [enc_length]; omega), List.take_of_length_le (by rw [enc_length]; omega), le_enc, Nat.mod_eq_of_lt (by simpa [fitsB] using h3)]
theorem setL_other {l : List UInt8} {a : Int} {n : Nat} {wd : Int} (h : setE l.length a n wd = 0) (i : Nat) (hi : (i : Int) < a ∨ a + wd ≤ i) (hl : i < l.length) : (setL l a n wd).getD i 0 = l.getD i 0 := by
  obtain ⟨h1, h2, h3⟩ := setE_zero h
  have h4 := within_of h2
  rw [setL_of h, List.getD_eq_getElem?_getD, List.getD_eq_getElem?_getD]
  congr 1
  have hl1 : (l.take a.toNat).length = a.toNat := by simp; omega
  rcases hi with hi | hi
  · rw [List.append_assoc, List.getElem?_append_left (by omega), List.getElem?_take, if_pos (by omega)]
  · rw [List.getElem?_append_right (by simp [enc_length]; omega), List.getElem?_drop]
    congr 1
    simp [enc_length]
    omega
theorem wrap_succ (b : UInt8) : IntKind.u8.wrap ((b.toNat : Int) + 1) = ((b + 1).toNat : Int) := by
  have := UInt8.toNat_lt b
  rw [UInt8.toNat_add]
  simp [IntKind.wrap, IntKind.bits, IntKind.signed]
theorem le_take_lt8 (l : List UInt8) (i : Nat) (h : i ≤ 8) : le (l.take i) < 18446744073709551616 := by
  have h1 := le_take_lt l i
  have h2 : 256 ^ i ≤ 256 ^ 8 := Nat.pow_le_pow_right (by decide) h
  have h3 : (256 : Nat) ^ 8 = 18446744073709551616 := by decide
  omega
theorem le_take2 (l : List UInt8) : le (l.take 2) < 65536 := le_take_lt l 2
end Go.Proofs.YtbldeodchhfjfaaGreatDoor.K
