import Derived.Test.YtebbaokcgnjfiaaDoorLBWord3
set_option linter.unusedVariables false
set_option linter.unusedSimpArgs false
namespace Go.Proofs.YtebbaokcgnjfiaaDoor.F
open Go Go.RowKit Go.Proofs.YtebbaokcgnjfiaaDoor.K
def nm (base : Nat) : List UInt8 → Nat → Nat → Nat → Nat × Nat × Nat × Int
 | [],p,n,c => (n,p,c,0)
 | x :: d,p,n,c => if vl x < 0 ∨ (base : Int) ≤ vl x then (n,p,c,0) else if c = 1 ∧ n = 0 then (0,p,c,6) else nm base d (p + 1) (if n ≤ 1099511627776 then n * base + (vl x).toNat else n) (c + 1)
def noDig (base : Nat) (d : List UInt8) : Prop := ∀ x r,d = x :: r → vl x < 0 ∨ (base : Int) ≤ vl x
theorem nm_at (base : Nat) : ∀ d p n c,p ≤ (nm base d p n c).2.1 ∧ (nm base d p n c).2.1 ≤ p + d.length ∧ ((nm base d p n c).2.2.2 = 0 ∨ (nm base d p n c).2.2.2 = 6)
 | [],p,n,c => ⟨Nat.le_refl _,by simp [nm],.inl rfl⟩
 | x :: d,p,n,c => by
  unfold nm
  split
  ·exact ⟨Nat.le_refl _,by simp,.inl rfl⟩
  ·split
   ·exact ⟨Nat.le_refl _,by simp,.inr rfl⟩
   ·obtain ⟨h1,h2,h3⟩ := nm_at base d (p + 1) (if n ≤ 1099511627776 then n * base + (vl x).toNat else n) (c + 1)
    exact ⟨by omega,by rw [List.length_cons]; omega,h3⟩
theorem nm_q {base : Nat} (hb : 2 ≤ base ∧ base ≤ 16) (d : List UInt8) (p : Nat) : ∀ k n,Dg base k n → n ≤ 1099511627776 → nm base (pd base k n ++ d) p 0 0 = nm base d (p + k) n k
 | 0,n,h,_ => absurd h.1 (by omega)
 | 1,n,h,_ => by
  have hlt : n < base := by simpa using h.2.1
  have hv := vl_dc n (by omega)
  show nm base ((pd base 0 (n / base) ++ [dc (n % base)]) ++ d) p 0 0 = _
  rw [Nat.mod_eq_of_lt hlt]
  show nm base (dc n :: d) p 0 0 = _
  conv => lhs; unfold nm
  rw [hv,if_neg (by omega),if_neg (by omega),if_pos (by omega),Nat.zero_mul,Nat.zero_add,Int.toNat_natCast]
 | k + 2,n,h,hn => by
  obtain ⟨h1,h2⟩ := dg_div hb.1 h
  have hm : n % base < base := Nat.mod_lt _ (by omega)
  have hle : n / base ≤ n := Nat.div_le_self _ _
  have hv := vl_dc (n % base) (by omega)
  rw [pd_succ,List.append_assoc,nm_q hb _ p (k + 1) (n / base) h1 (by omega)]
  show nm base (dc (n % base) :: d) (p + (k + 1)) (n / base) (k + 1) = _
  have hdm : n / base * base + n % base = n := by rw [Nat.mul_comm]; exact Nat.div_add_mod n base
  conv => lhs; unfold nm
  rw [hv,if_neg (by omega),if_neg (by omega),if_pos (by omega),Int.toNat_natCast,hdm]
  rfl
theorem nm_end {base : Nat} {d : List UInt8} (h : noDig base d) (p n c : Nat) : nm base d p n c = (n,p,c,0) := by
 cases d with
 | nil => rfl
 | cons x d =>
  unfold nm
  rw [if_pos (h x d rfl)]
theorem nm_back {base : Nat} (hb : 2 ≤ base ∧ base ≤ 16) : ∀ (d : List UInt8) (p n c : Nat),(c = 0 ∧ n = 0 ∨ Dg base c n ∧ n ≤ 1099511627776 ∨ 1099511627776 < n) → (nm base d p n c).2.2.2 = 0 → (nm base d p n c).1 ≤ 1099511627776 →
  ∃ s,d = s ++ d.drop s.length ∧ (nm base d p n c).2.1 = p + s.length ∧ (nm base d p n c).2.2.1 = c + s.length ∧ noDig base (d.drop s.length) ∧ pd base (c + s.length) (nm base d p n c).1 = pd base c n ++ s ∧ (c + s.length = 0 ∨ Dg base (c + s.length) (nm base d p n c).1)
 | [],p,n,c,h,he,hn => by
  have hn : n ≤ 1099511627776 := hn
  refine ⟨[],rfl,rfl,rfl,fun x r h => (by cases h),by simp [nm],?_⟩
  rcases h with h | h | h
  ·exact .inl (by simpa using h.1)
  ·exact .inr h.1
  ·omega
 | x :: d,p,n,c,h,he,hn => by
  by_cases h1 : vl x < 0 ∨ (base : Int) ≤ vl x
  ·have e : nm base (x :: d) p n c = (n,p,c,0) := by unfold nm; rw [if_pos h1]
   rw [e] at hn ⊢
   dsimp only at hn
   refine ⟨[],rfl,rfl,rfl,fun y r hy => by cases hy; exact h1,by simp,?_⟩
   rcases h with h | h | h
   ·exact .inl (by simpa using h.1)
   ·exact .inr h.1
   ·omega
  ·by_cases h2 : c = 1 ∧ n = 0
   ·have e : nm base (x :: d) p n c = (0,p,c,6) := by unfold nm; rw [if_neg h1,if_pos h2]
    rw [e] at he
    exact absurd he (by show ¬ (6 : Int) = 0; decide)
   ·have e : nm base (x :: d) p n c = nm base d (p + 1) (if n ≤ 1099511627776 then n * base + (vl x).toNat else n) (c + 1) := by conv => lhs; unfold nm; rw [if_neg h1,if_neg h2]
    rw [e] at he hn ⊢
    obtain ⟨v,hv⟩ : ∃ v : Nat,vl x = (v : Int) := ⟨(vl x).toNat,by omega⟩
    rw [hv] at he hn ⊢
    have hvb : v < base := by omega
    have hxd : dc v = x := by have := dc_vl x (by omega); rw [hv,Int.toNat_natCast] at this; exact this
    rw [Int.toNat_natCast] at he hn ⊢
    by_cases hbig : n ≤ 1099511627776
    ·rw [if_pos hbig] at he hn ⊢
     have hdiv : (n * base + v) / base = n := by rw [Nat.mul_comm,Nat.mul_add_div (by omega),Nat.div_eq_of_lt hvb,Nat.add_zero]
     have hmod : (n * base + v) % base = v := by rw [Nat.mul_comm,Nat.mul_add_mod,Nat.mod_eq_of_lt hvb]
     have hpd : pd base (c + 1) (n * base + v) = pd base c n ++ [x] := by rw [pd_succ,hdiv,hmod,hxd]
     have hdg : Dg base (c + 1) (n * base + v) := by
      rcases h with ⟨h3,h4⟩ | ⟨h3,_⟩ | h3
      ·subst h3; subst h4
       refine ⟨by omega,?_,.inl rfl⟩
       rw [Nat.zero_mul,Nat.zero_add,Nat.zero_add,Nat.pow_one]; exact hvb
      ·obtain ⟨g1,g2,g3⟩ := h3
       have hn0 : 1 ≤ n := by
        rcases g3 with g3 | g3
        ·rcases Nat.eq_zero_or_pos n with z | z
         ·exact absurd ⟨g3,z⟩ h2
         ·exact z
        ·have : 0 < base ^ (c - 1) := Nat.pow_pos (by omega)
         omega
       refine ⟨by omega,?_,.inr ?_⟩
       ·have : (n + 1) * base ≤ base ^ c * base := Nat.mul_le_mul_right _ g2
        rw [Nat.add_mul,← Nat.pow_succ,Nat.one_mul] at this
        show _ < base ^ (c + 1)
        have e7 : base ^ c.succ = base ^ (c + 1) := rfl
        omega
       ·show base ^ c ≤ _
        rcases g3 with g3 | g3
        ·rw [g3,Nat.pow_one]
         have : 1 * base ≤ n * base := Nat.mul_le_mul_right _ hn0
         omega
        ·have e5 : base ^ c = base ^ (c - 1) * base := by rw [← Nat.pow_succ]; congr 1; omega
         have : base ^ (c - 1) * base ≤ n * base := Nat.mul_le_mul_right _ g3
         omega
      ·omega
     have hst : (c + 1 = 0 ∧ n * base + v = 0 ∨ Dg base (c + 1) (n * base + v) ∧ n * base + v ≤ 1099511627776 ∨ 1099511627776 < n * base + v) := by
      by_cases hz : n * base + v ≤ 1099511627776
      ·exact .inr (.inl ⟨hdg,hz⟩)
      ·exact .inr (.inr (by omega))
     obtain ⟨s,s1,s2,s3,s4,s5,s6⟩ := nm_back hb d (p + 1) (n * base + v) (c + 1) hst he hn
     refine ⟨x :: s,?_,by rw [s2,List.length_cons]; omega,by rw [s3,List.length_cons]; omega,s4,?_,?_⟩
     ·rw [List.length_cons,List.drop_succ_cons,List.cons_append,← s1]
     ·rw [List.length_cons,show c + (s.length + 1) = c + 1 + s.length by omega,s5,hpd,List.append_assoc]
      rfl
     ·rw [List.length_cons,show c + (s.length + 1) = c + 1 + s.length by omega]
      exact s6
    ·rw [if_neg hbig] at he hn
     have key : ∀ (d : List UInt8) (p c : Nat),(nm base d p n c).2.2.2 = 0 → 1099511627776 < (nm base d p n c).1 := by
      intro d
      induction d with
      | nil => intro p c _; show 1099511627776 < n; omega
      | cons y d ih =>
       intro p c hz
       unfold nm at hz ⊢
       split
       ·show 1099511627776 < n; omega
       ·rename_i g1
        rw [if_neg g1] at hz
        split
        ·rename_i g2; omega
        ·rename_i g2
         rw [if_neg g2,if_neg hbig] at hz
         exact ih _ _ hz
     have := key d (p + 1) (c + 1) he
     omega
end Go.Proofs.YtebbaokcgnjfiaaDoor.F
