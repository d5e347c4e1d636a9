import Derived.Test.YtebbaokcgnjfiaaDoorLBMan
set_option linter.unusedVariables false
set_option linter.unusedSimpArgs false
namespace Go.Proofs.YtebbaokcgnjfiaaDoor.F
open Go Go.RowKit Go.Proofs.YtebbaokcgnjfiaaDoor.K
def vl (c : UInt8) : Int := if 48 ≤ c.toNat ∧ c.toNat ≤ 57 then (c.toNat : Int) - 48 else if 97 ≤ c.toNat ∧ c.toNat ≤ 102 then (c.toNat : Int) - 87 else -1
theorem refvalue_eq (c : UInt8) : ref27_value c = vl c := by
 unfold ref27_value vl
 simp only [Bool.cond_eq_ite,decide_eq_true_eq]
 repeat' split
 all_goals omega
theorem digit_eq (c : UInt8) : manifest_digit c = vl c := by
 rw [← refvalue_eq]
 have h8 : 48 ≤ c.toNat → ((c - (48 : UInt8)).toNat : Int) = (c.toNat : Int) - 48 := fun h => by
  rw [UInt8.toNat_sub_of_le _ _ (by rw [UInt8.le_iff_toNat_le]; exact h)]; show ((c.toNat - 48 : Nat) : Int) = _; omega
 have h9 : 97 ≤ c.toNat → ((c - (97 : UInt8)).toNat : Int) = (c.toNat : Int) - 97 := fun h => by
  rw [UInt8.toNat_sub_of_le _ _ (by rw [UInt8.le_iff_toNat_le]; exact h)]; show ((c.toNat - 97 : Nat) : Int) = _; omega
 unfold manifest_digit ref27_value
 by_cases a : 48 ≤ c.toNat
 ·by_cases d : 97 ≤ c.toNat
  ·rw [h8 a,h9 d]
  ·rw [h8 a,decide_eq_false (show ¬ (c.toNat : Int) ≥ 97 by omega)]; simp only [cond_false]
 ·rw [decide_eq_false (show ¬ (c.toNat : Int) ≥ 48 by omega),decide_eq_false (show ¬ (c.toNat : Int) ≥ 97 by omega)]; rfl
theorem vl_ge (c : UInt8) : -1 ≤ vl c ∧ vl c ≤ 15 := by unfold vl; split <;> (try split) <;> omega
theorem vl_dc : ∀ k : Nat,k < 16 → vl (dc k) = (k : Int) := by decide
theorem dc_vl (c : UInt8) (h : 0 ≤ vl c) : dc (vl c).toNat = c := by
 rw [← UInt8.toNat_inj]
 unfold vl at h ⊢
 unfold dc
 have := c.toNat_lt
 split at h
 ·rename_i k; rw [if_pos k,if_pos (by omega),UInt8.toNat_ofNat']; omega
 ·rename_i k
  split at h
  ·rename_i k2; rw [if_neg k,if_pos k2,if_neg (by omega),UInt8.toNat_ofNat']; omega
  ·omega
def by2 (x y : UInt8) : UInt8 := UInt8.ofNat (16 * (vl x).toNat + (vl y).toNat)
def wd : List UInt8 → Nat → List UInt8 → List UInt8 × Nat × Int
 | [],p,acc => (acc,p,0)
 | c :: d,p,acc => if manifest_plain c then wd d (p + 1) (acc ++ [c]) else if c ≠ 37 then (acc,p,0) else match d with
  | [] => ([],p + 1,6)
  | [x] => if vl x < 0 then ([],p + 1,6) else ([],p + 2,6)
  | x :: y :: d' => if vl x < 0 then ([],p + 1,6) else if vl y < 0 then ([],p + 2,6) else if manifest_plain (by2 x y) then ([],p + 2,6) else wd d' (p + 3) (acc ++ [by2 x y])
def byteS (b : List UInt8) (p : Nat) : UInt8 := b.getD p 0
def lone (b : List UInt8) (p : Nat) : Bool := byteS b p == 37 && (decide (p + 1 = b.length) || (byteS b (p + 1) == 32 || byteS b (p + 1) == 10))
def wordS (b : List UInt8) (p : Nat) : List UInt8 × Nat × Int :=
 if lone b p then ([],p + 1,0) else
  let r := wd (b.drop p) p []
  if r.2.2 = 0 ∧ r.2.1 = p then ([],p,6) else r
theorem wd_at : ∀ (n : Nat) (d : List UInt8) (p : Nat) (acc : List UInt8),d.length ≤ n → p ≤ (wd d p acc).2.1 ∧ (wd d p acc).2.1 ≤ p + d.length ∧ ((wd d p acc).2.2 = 0 ∨ (wd d p acc).2.2 = 6 ∧ (wd d p acc).1 = []) ∧ (wd d p acc).1.length ≤ acc.length + d.length := by
 intro n
 induction n with
 | zero =>
  intro d p acc h
  have : d = [] := by cases d with
   | nil => rfl
   | cons => simp at h
  subst this
  simp [wd]
 | succ n ih =>
  intro d p acc h
  match d,h with
  | [],_ => simp [wd]
  | c :: d,h =>
   simp only [List.length_cons] at h
   unfold wd
   split
   ·have := ih d (p + 1) (acc ++ [c]) (by omega)
    simp only [List.length_append,List.length_cons,List.length_nil] at this ⊢
    refine ⟨by omega,by omega,this.2.2.1,by omega⟩
   ·split
    ·simp
    ·match d,h with
     | [],_ => simp
     | [x],_ => dsimp only; split <;> simp
     | x :: y :: d',h =>
      dsimp only
      split
      ·simp
      ·split
       ·simp
       ·split
        ·simp
        ·have := ih d' (p + 3) (acc ++ [by2 x y]) (by simp only [List.length_cons] at h; omega)
         simp only [List.length_append,List.length_cons,List.length_nil] at this ⊢
         refine ⟨by omega,by omega,this.2.2.1,by omega⟩
theorem byteS_lt {b : List UInt8} {p : Nat} (h : p < b.length) : byteS b p = b[p] := by unfold byteS; rw [List.getD_eq_getElem?_getD,List.getElem?_eq_getElem h]; rfl
theorem byteS_ge {b : List UInt8} {p : Nat} (h : b.length ≤ p) : byteS b p = 0 := by unfold byteS; rw [List.getD_eq_getElem?_getD,List.getElem?_eq_none h]; rfl
theorem vl0 : vl 0 = -1 := by decide
theorem toNat37 (c : UInt8) : ((c.toNat : Int) == 37) = (c == 37) := by
 rw [Bool.eq_iff_iff,beq_iff_eq,beq_iff_eq,← UInt8.toNat_inj]
 show _ ↔ c.toNat = 37
 omega
theorem toNat32 (c : UInt8) : ((c.toNat : Int) == 32) = (c == 32) := by
 rw [Bool.eq_iff_iff,beq_iff_eq,beq_iff_eq,← UInt8.toNat_inj]
 show _ ↔ c.toNat = 32
 omega
theorem toNat10 (c : UInt8) : ((c.toNat : Int) == 10) = (c == 10) := by
 rw [Bool.eq_iff_iff,beq_iff_eq,beq_iff_eq,← UInt8.toNat_inj]
 show _ ↔ c.toNat = 10
 omega
def endR (r : List UInt8 × Nat × Int) : Sum (Int × List UInt8) (List UInt8 × Int × Int) := if r.2.2 = 0 then .inl ((r.2.1 : Int),r.1) else .inr ([],(r.2.1 : Int),6)
theorem plain37 : manifest_plain 37 = false := by decide
end Go.Proofs.YtebbaokcgnjfiaaDoor.F
