import Derived.Test.YtebbaokcgnjfiaaDoorLBDig4
import Derived.Test.YtebbaokcgnjfiaaDoorLBMuch
set_option linter.unusedVariables false
set_option linter.unusedSimpArgs false
namespace Go.Proofs.YtebbaokcgnjfiaaDoor.F
open Go Go.RowKit Go.Proofs.YtebbaokcgnjfiaaDoor.K
def h2x (c : UInt8) : List UInt8 := [dc (c.toNat / 16),dc (c.toNat % 16)]
theorem two_ok (c : UInt8) : ref27_two c = some (h2x c) := by
 have := c.toNat_lt
 unfold ref27_two
 rw [show (c / (16 : UInt8)).toNat = c.toNat / 16 from UInt8.toNat_div ..,show (c % (16 : UInt8)).toNat = c.toNat % 16 from UInt8.toNat_mod ..,idx_ok (dc16 _ (by omega)),Option.bind_some,idx_ok (dc16 _ (by omega))]
 rfl
theorem hi4 (c : UInt8) : (shr8 c 4).toNat = c.toNat / 16 := by
 have := c.toNat_lt
 unfold shr8
 rw [UInt8.toNat_ofNat']
 show c.toNat / 2 ^ 4 % 256 = _
 omega
theorem lo4 (c : UInt8) : (c &&& (15 : UInt8)).toNat = c.toNat % 16 := by
 rw [UInt8.toNat_and]
 exact Nat.and_two_pow_sub_one_eq_mod c.toNat 4
theorem d16 {k : Nat} (h : k < 16) : idx ([48,49,50,51,52,53,54,55,56,57,97,98,99,100,101,102] : List UInt8) (k : Int) = some (dc k) := idx_ok (dc16 k h)
theorem plain_eq (c : UInt8) : ref27_plain c = manifest_plain c := by
 unfold ref27_plain manifest_plain
 rw [show decide ((c.toNat : Int) ≥ 33) = decide ((c.toNat : Int) > 32) from by rw [Bool.eq_iff_iff,decide_eq_true_eq,decide_eq_true_eq]; omega,show decide ((c.toNat : Int) ≤ 126) = decide ((c.toNat : Int) < 127) from by rw [Bool.eq_iff_iff,decide_eq_true_eq,decide_eq_true_eq]; omega]
def q1 (c : UInt8) : List UInt8 := if manifest_plain c then [c] else 37 :: h2x c
theorem q1_len (c : UInt8) : (q1 c).length ≤ 3 := by unfold q1; split <;> simp [h2x]
def Qt (s : List UInt8) : List UInt8 := if s = [] then [37] else s.flatMap q1
theorem fold_flat {α β : Type} (f : α → List β) : ∀ (l : List α) (b : List β),l.foldl (fun b x => b ++ f x) b = b ++ l.flatMap f
 | [],b => by simp
 | x :: l,b => by rw [List.foldl_cons,fold_flat f l,List.flatMap_cons,List.append_assoc]
theorem flat_len {α β : Type} (f : α → List β) (n : Nat) : ∀ l : List α,(∀ x ∈ l,(f x).length ≤ n) → (l.flatMap f).length ≤ n * l.length
 | [],_ => by simp
 | x :: l,h => by
  rw [List.flatMap_cons,List.length_append,List.length_cons,Nat.mul_add]
  have := flat_len f n l (fun y hy => h y (by simp [hy]))
  have := h x (by simp)
  omega
theorem Qt_len (s : List UInt8) : (Qt s).length ≤ 3 * s.length + 1 := by
 unfold Qt
 split
 ·simp
 ·have := flat_len q1 3 s (fun x _ => q1_len x); omega
theorem drop_len_succ {α : Type} (l : List α) (t : Nat) (h : t < l.length) : (l.drop t).length = (l.drop (t + 1)).length + 1 := by rw [List.length_drop,List.length_drop]; omega
theorem Quote_ok (s : List UInt8) (h : s.length ≤ 1000000000) : manifest_Quote s = some (Qt s) := by
 unfold manifest_Quote Qt
 by_cases hs : s = []
 ·subst hs; rfl
 ·rw [show (s == []) = false from by simpa using hs,cond_false,if_neg hs]
  have := loop_fold s (fun s_1 => manifest_Quote_l1 s s_1.1 s_1.2) (fun b c => b ++ q1 c) id (fun b r => b.length + 3 * r.length ≤ 4000000000) ?_ ?_ s.length 0 [] (by omega) (by omega) (by simp; omega)
  ·rw [this,List.drop_zero,fold_flat,List.nil_append]
   rfl
  ·intro b t x hx hI
   have hlt := (List.getElem?_eq_some_iff.1 hx).1
   rw [drop_len_succ s t hlt] at hI
   have hq := q1_len x
   refine ⟨?_,by rw [List.length_append]; omega⟩
   have hxl := x.toNat_lt
   unfold manifest_Quote_l1 q1
   dsimp only
   rw [decide_eq_true (by omega),cond_true,idx_ok hx,Option.bind_some]
   cases hp : manifest_plain x
   ·rw [cond_false,hi4,lo4,d16 (by omega),Option.bind_some,d16 (by omega),Option.bind_some,app_ok (by simp; omega)]
    rfl
   ·rw [cond_true,app_ok (by simp; omega)]
    rfl
  ·intro b _
   unfold manifest_Quote_l1
   dsimp only
   rw [decide_eq_false (by omega)]
   rfl
theorem refQuote_ok (s : List UInt8) (h : s.length ≤ 1000000000) : ref27_Quote s = some (Qt s) := by
 unfold ref27_Quote Qt
 by_cases hs : s = []
 ·subst hs; rfl
 ·rw [show (s == []) = false from by simpa using hs,cond_false,if_neg hs]
  have := loop_fold s (fun s_1 => ref27_Quote_l1 s s_1.1 s_1.2) (fun b c => b ++ q1 c) id (fun b r => b.length + 3 * r.length ≤ 4000000000) ?_ ?_ s.length 0 [] (by omega) (by omega) (by simp; omega)
  ·rw [this,List.drop_zero,fold_flat,List.nil_append]
   rfl
  ·intro b t x hx hI
   have hlt := (List.getElem?_eq_some_iff.1 hx).1
   rw [drop_len_succ s t hlt] at hI
   have hq := q1_len x
   refine ⟨?_,by rw [List.length_append]; omega⟩
   unfold ref27_Quote_l1 q1
   dsimp only
   rw [decide_eq_true (by omega),cond_true,idx_ok hx,Option.bind_some,plain_eq]
   cases hp : manifest_plain x
   ·rw [cond_false,app_ok (by simp; omega),Option.bind_some,two_ok,Option.bind_some,app_ok (by simp [h2x]; omega),List.append_assoc]
    rfl
   ·rw [cond_true,app_ok (by simp; omega)]
    rfl
  ·intro b _
   unfold ref27_Quote_l1
   dsimp only
   rw [decide_eq_false (by omega)]
   rfl
theorem hex_len (x : List UInt8) : (x.flatMap h2x).length = 2 * x.length := by
 induction x with
 | nil => rfl
 | cons c x ih => rw [List.flatMap_cons,List.length_append,ih,List.length_cons]; simp [h2x]; omega
theorem hex_ok (b x : List UInt8) (h : b.length + 2 * x.length ≤ 100000000000) : manifest_hex b x = some (b ++ x.flatMap h2x) := by
 unfold manifest_hex
 have := loop_fold x (fun s_1 => manifest_hex_l1 x s_1.1 s_1.2) (fun b c => b ++ h2x c) id (fun b r => b.length + 2 * r.length ≤ 100000000000) ?_ ?_ x.length 0 b (by omega) (by omega) (by simpa using h)
 ·rw [this,List.drop_zero,fold_flat]
  rfl
 ·intro b t c hc hI
  have hlt := (List.getElem?_eq_some_iff.1 hc).1
  rw [drop_len_succ x t hlt] at hI
  refine ⟨?_,by rw [List.length_append,show (h2x c).length = 2 from rfl]; omega⟩
  have hxl := c.toNat_lt
  unfold manifest_hex_l1
  dsimp only
  rw [decide_eq_true (by omega),cond_true,hc,Option.bind_some,hi4,lo4,d16 (by omega),Option.bind_some,d16 (by omega),Option.bind_some,app_ok (by simp; omega)]
  rfl
 ·intro b _
  unfold manifest_hex_l1
  dsimp only
  rw [decide_eq_false (by omega)]
  rfl
theorem refhex_ok (x : List UInt8) (h : 2 * x.length ≤ 100000000000) : ref27_hex x = some (x.flatMap h2x) := by
 unfold ref27_hex
 have := loop_fold x (fun s_1 => ref27_hex_l1 x s_1.1 s_1.2) (fun b c => b ++ h2x c) id (fun b r => b.length + 2 * r.length ≤ 100000000000) ?_ ?_ x.length 0 [] (by omega) (by omega) (by simpa using h)
 ·rw [this,List.drop_zero,fold_flat,List.nil_append]
  rfl
 ·intro b t c hc hI
  have hlt := (List.getElem?_eq_some_iff.1 hc).1
  rw [drop_len_succ x t hlt] at hI
  refine ⟨?_,by rw [List.length_append,show (h2x c).length = 2 from rfl]; omega⟩
  unfold ref27_hex_l1
  dsimp only
  rw [decide_eq_true (by omega),cond_true,hc,Option.bind_some,two_ok,Option.bind_some,app_ok (by simp [h2x]; omega)]
  rfl
 ·intro b _
  unfold ref27_hex_l1
  dsimp only
  rw [decide_eq_false (by omega)]
  rfl
noncomputable def dgsN (b n : Nat) : List UInt8 := if h : 2 ≤ b then pd b (Classical.choose (dg_ex h n)) n else []
noncomputable def dgs (b : Nat) (n : Int) : List UInt8 := dgsN b n.toNat
theorem dgs_eq {b k n : Nat} (hb : 2 ≤ b) (h : Dg b k n) : dgs b (n : Int) = pd b k n := by
 unfold dgs dgsN
 rw [dif_pos hb]
 show pd b (Classical.choose (dg_ex hb n)) n = _
 have h2 := Classical.choose_spec (dg_ex hb n)
 have a := dg_le h2 h.2.1 hb h.1
 have c := dg_le h h2.2.1 hb h2.1
 rw [show Classical.choose (dg_ex hb n) = k by omega]
theorem dgs_any {b : Nat} (hb : 2 ≤ b) {n : Int} (h : 0 ≤ n ∧ n ≤ 1099511627776) : ∃ k : Nat,k ≤ 41 ∧ Dg b k n.toNat ∧ dgs b n = pd b k n.toNat ∧ (dgs b n).length = k := by
 obtain ⟨k,hk⟩ := dg_ex hb n.toNat
 have e : dgs b n = pd b k n.toNat := by
  have := dgs_eq hb hk
  rwa [show ((n.toNat : Nat) : Int) = n by omega] at this
 refine ⟨k,dg_le hk (j := 41) ?_ hb (by omega),hk,e,by rw [e,pd_len]⟩
 have : (2 : Nat) ^ 41 ≤ b ^ 41 := Nat.pow_le_pow_left hb _
 omega
theorem num1 {b : Nat} (hb : b = 8 ∨ b = 10) (dst : List UInt8) {n : Int} (h : 0 ≤ n ∧ n ≤ 1099511627776) (hl : dst.length + 65 ≤ 137438953472) : manifest_num dst n (b : Int) = some (dst ++ 32 :: dgs b n) := by
 obtain ⟨k,h1,h2,h3,h4⟩ := dgs_any (b := b) (by omega) h
 have := num_ok hb dst h2 (by omega) hl
 rw [h3,← this,show ((n.toNat : Nat) : Int) = n by omega]
theorem num8 (dst : List UInt8) {n : Int} (h : 0 ≤ n ∧ n ≤ 1099511627776) (hl : dst.length + 65 ≤ 137438953472) : manifest_num dst n 8 = some (dst ++ 32 :: dgs 8 n) := num1 (.inl rfl) dst h hl
theorem num10 (dst : List UInt8) {n : Int} (h : 0 ≤ n ∧ n ≤ 1099511627776) (hl : dst.length + 65 ≤ 137438953472) : manifest_num dst n 10 = some (dst ++ 32 :: dgs 10 n) := num1 (.inr rfl) dst h hl
theorem dig1 {b : Nat} (hb : b = 8 ∨ b = 10) {n : Int} (h : 0 ≤ n ∧ n ≤ 1099511627776) : ref27_Digits n (b : Int) = some (dgs b n) := by
 obtain ⟨k,h1,h2,h3,h4⟩ := dgs_any (b := b) (by omega) h
 have := Digits_ok (by omega) h2 (by omega)
 rw [h3,← this,show ((n.toNat : Nat) : Int) = n by omega]
theorem dig8 {n : Int} (h : 0 ≤ n ∧ n ≤ 1099511627776) : ref27_Digits n 8 = some (dgs 8 n) := dig1 (.inl rfl) h
theorem dig10 {n : Int} (h : 0 ≤ n ∧ n ≤ 1099511627776) : ref27_Digits n 10 = some (dgs 10 n) := dig1 (.inr rfl) h
theorem dgs_le {b : Nat} (hb : b = 8 ∨ b = 10) {n : Int} (h : 0 ≤ n ∧ n ≤ 1099511627776) : (dgs b n).length ≤ 41 := by
 obtain ⟨k,h1,h2,h3,h4⟩ := dgs_any (b := b) (by omega) h
 omega
def inM (n : Int) : Prop := 0 ≤ n ∧ n ≤ 1099511627776
instance (n : Int) : Decidable (inM n) := by unfold inM; exact inferInstance
structure RightP (x : TApiEntry) : Prop where
 kind : 1 ≤ x.Kind ∧ x.Kind ≤ 6
 head : x.Kind ≠ 6 → inM x.Mode ∧ inM x.Uid ∧ inM x.Gid ∧ inM x.Time
 size : x.Kind = 1 → inM x.Size
 dev : x.Kind = 4 ∨ x.Kind = 5 → inM x.Dev
theorem in_eq (n : Int) : ref27_in n = decide (inM n) := by
 unfold ref27_in inM
 by_cases h : n ≥ 0 <;> simp [h]
theorem btw_eq (n : Int) : manifest_between n 0 1099511627776 = decide (inM n) := in_eq n
theorem Right_iff (x : TApiEntry) : ref27_Right x = true ↔ RightP x := by
 constructor
 ·intro h
  unfold ref27_Right at h
  simp only [in_eq] at h
  by_cases h6 : x.Kind = 6
  ·exact ⟨by omega,fun e => absurd h6 e,by omega,by omega⟩
  ·rw [show (x.Kind == 6) = false from by simpa using h6,cond_false] at h
   by_cases h1 : x.Kind < 1
   ·rw [decide_eq_true h1] at h; cases h
   ·by_cases h5 : x.Kind > 5
    ·rw [decide_eq_false h1,decide_eq_true h5] at h; cases h
    ·rw [decide_eq_false h1,decide_eq_false h5] at h
     simp only [cond_false,Bool.cond_eq_ite,decide_eq_true_eq,Bool.ite_eq_true_distrib] at h
     by_cases a1 : inM x.Mode <;> by_cases a2 : inM x.Uid <;> by_cases a3 : inM x.Gid <;> by_cases a4 : inM x.Time <;> simp only [a1,a2,a3,a4,if_true,if_false,ite_self,Bool.false_eq_true] at h
     refine ⟨by omega,fun _ => ⟨a1,a2,a3,a4⟩,?_,?_⟩
     ·intro e
      refine Decidable.byContradiction fun hc => ?_
      simp [e,hc] at h
     ·intro e
      refine Decidable.byContradiction fun hc => ?_
      have : ¬ x.Kind < 4 := by omega
      have : x.Kind ≠ 1 := by omega
      simp [*] at h
 ·intro h
  obtain ⟨k,h1,h2,h3⟩ := h
  unfold ref27_Right
  simp only [in_eq]
  by_cases h6 : x.Kind = 6
  ·rw [h6]; rfl
  ·obtain ⟨a1,a2,a3,a4⟩ := h1 h6
   rw [show (x.Kind == 6) = false from by simpa using h6,decide_eq_false (by omega),decide_eq_false (by omega),decide_eq_true a1,decide_eq_true a2,decide_eq_true a3,decide_eq_true a4]
   simp only [cond_true,cond_false]
   rcases (show x.Kind = 1 ∨ x.Kind = 2 ∨ x.Kind = 3 ∨ x.Kind = 4 ∨ x.Kind = 5 by omega) with e | e | e | e | e
   ·rw [e,decide_eq_true (h2 e)]; rfl
   ·rw [e]; rfl
   ·rw [e]; rfl
   ·rw [e,decide_eq_true (h3 (.inl e))]; rfl
   ·rw [e,decide_eq_true (h3 (.inr e))]; rfl
theorem right_eq (x : TApiEntry) : manifest_right x = ref27_Right x := by
 unfold manifest_right ref27_Right
 simp only [in_eq,btw_eq,lt_eq]
 by_cases k1 : x.Kind < 1
 ·have : ¬ x.Kind = 6 := by omega
  rw [show (x.Kind == 6) = false from by simpa using this,decide_eq_true k1]
  unfold manifest_between
  rw [decide_eq_false (by omega)]
  rfl
 ·by_cases k6 : x.Kind > 6
  ·have : ¬ x.Kind = 6 := by omega
   rw [show (x.Kind == 6) = false from by simpa using this,decide_eq_false k1,decide_eq_true (show x.Kind > 5 by omega)]
   unfold manifest_between
   rw [decide_eq_true (by omega),decide_eq_false (by omega)]
   rfl
  ·rcases (show x.Kind = 1 ∨ x.Kind = 2 ∨ x.Kind = 3 ∨ x.Kind = 4 ∨ x.Kind = 5 ∨ x.Kind = 6 by omega) with e | e | e | e | e | e <;> rw [e] <;>
    cases decide (inM x.Mode) <;> cases decide (inM x.Uid) <;> cases decide (inM x.Gid) <;> cases decide (inM x.Time) <;> cases decide (inM x.Size) <;> cases decide (inM x.Dev) <;> rfl
end Go.Proofs.YtebbaokcgnjfiaaDoor.F
