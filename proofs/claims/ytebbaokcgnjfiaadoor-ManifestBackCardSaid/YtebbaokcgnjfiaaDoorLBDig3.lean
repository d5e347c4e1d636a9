import Derived.Test.YtebbaokcgnjfiaaDoorLBDig2
set_option linter.unusedVariables false
set_option linter.unusedSimpArgs false
namespace Go.Proofs.YtebbaokcgnjfiaaDoor.F
open Go Go.RowKit Go.Proofs.YtebbaokcgnjfiaaDoor.K
theorem tm100 (a : Nat) : Int.tmod (a : Int) 100 = ((a % 100 : Nat) : Int) := rfl
theorem tm10k (a : Nat) : Int.tmod (a : Int) 10000 = ((a % 10000 : Nat) : Int) := rfl
theorem td100 (a : Nat) : Int.tdiv (a : Int) 100 = ((a / 100 : Nat) : Int) := rfl
theorem td10k (a : Nat) : Int.tdiv (a : Int) 10000 = ((a / 10000 : Nat) : Int) := rfl
theorem x0 {k : Nat} (h : k < 100) : ((UInt32.ofInt ((k : Int) * 2)).toNat : Int) = ((2 * k : Nat) : Int) := by
 rw [show (k : Int) * 2 = ((2 * k : Nat) : Int) by omega]; exact o32 (by omega)
theorem x1 {k : Nat} (h : k < 100) : ((UInt32.ofInt (((2 * k : Nat) : Int) + 1)).toNat : Int) = ((2 * k + 1 : Nat) : Int) := by
 rw [show ((2 * k : Nat) : Int) + 1 = ((2 * k + 1 : Nat) : Int) by omega]; exact o32 (by omega)
theorem stk (a : List UInt8) (n j : Nat) (c : UInt8) (h : j < n) (hn : n ≤ a.length) : ((a.set j c).take n).drop j = c :: (a.take n).drop (j + 1) := by
 rw [List.take_set,set_drop _ _ _ (by rw [List.length_take]; omega)]
theorem pd8 (k n : Nat) : pd 10 (k + 8) n = pd 10 k (n / 100000000) ++ [dc (n / 10000000 % 10),dc (n / 1000000 % 10),dc (n / 100000 % 10),dc (n / 10000 % 10),dc (n / 1000 % 10),dc (n / 100 % 10),dc (n / 10 % 10),dc (n % 10)] := by
 simp only [pd,Nat.div_div_eq_div_mul,List.append_assoc,List.cons_append,List.nil_append]
theorem base10_round (len nd : Nat) (a : List UInt8) (u : UInt64) (h1 : 8 ≤ nd) (h2 : nd ≤ len) (h3 : len ≤ a.length) (hm : len ≤ 1000) :
  ∃ a',internal_strconv_formatBase10_l1 len a u (nd : Int) = some (.inl (a',u / 100000000,((nd - 8 : Nat) : Int))) ∧ a'.length = a.length ∧ (a'.take len).drop (nd - 8) = [dc (u.toNat / 10000000 % 10),dc (u.toNat / 1000000 % 10),dc (u.toNat / 100000 % 10),dc (u.toNat / 10000 % 10),dc (u.toNat / 1000 % 10),dc (u.toNat / 100 % 10),dc (u.toNat / 10 % 10),dc (u.toNat % 10)] ++ (a.take len).drop nd := by
 obtain ⟨v,hv⟩ : ∃ v,v = u.toNat % 100000000 := ⟨_,rfl⟩
 have hv2 : (u % 100000000).toNat = v := by rw [UInt64.toNat_mod,hv]; rfl
 have hvl : v < 100000000 := by rw [hv]; exact Nat.mod_lt _ (by omega)
 unfold internal_strconv_formatBase10_l1
 rw [decide_eq_true (by omega),cond_true,hv2]
 have e1 : ((UInt32.ofInt (v : Int)).toNat : Int) = (v : Int) := o32 (by omega)
 have e2 : ((UInt32.ofInt ((v / 10000 : Nat) : Int)).toNat : Int) = ((v / 10000 : Nat) : Int) := o32 (by omega)
 have e3 : ((UInt32.ofInt ((v % 10000 / 100 : Nat) : Int)).toNat : Int) = ((v % 10000 / 100 : Nat) : Int) := o32 (by omega)
 have e4 : ((UInt32.ofInt ((v / 10000 / 100 : Nat) : Int)).toNat : Int) = ((v / 10000 / 100 : Nat) : Int) := o32 (by omega)
 simp only [e1,e2,e3,e4,tm100,tm10k,td100,td10k]
 rw [x0 (k := v % 10000 % 100) (by omega),x1 (k := v % 10000 % 100) (by omega),x0 (k := v % 10000 / 100) (by omega),x1 (k := v % 10000 / 100) (by omega),x0 (k := v / 10000 % 100) (by omega),x1 (k := v / 10000 % 100) (by omega),x0 (k := v / 10000 / 100) (by omega),x1 (k := v / 10000 / 100) (by omega)]
 rw [idx_ok (l200 (v % 10000 % 100) (by omega)).1,idx_ok (l200 (v % 10000 % 100) (by omega)).2,idx_ok (l200 (v % 10000 / 100) (by omega)).1,idx_ok (l200 (v % 10000 / 100) (by omega)).2,idx_ok (l200 (v / 10000 % 100) (by omega)).1,idx_ok (l200 (v / 10000 % 100) (by omega)).2,idx_ok (l200 (v / 10000 / 100) (by omega)).1,idx_ok (l200 (v / 10000 / 100) (by omega)).2]
 rw [wI (x := (nd : Int) - 1) (by omega),wI (x := (nd : Int) - 2) (by omega),wI (x := (nd : Int) - 3) (by omega),wI (x := (nd : Int) - 4) (by omega),wI (x := (nd : Int) - 5) (by omega),wI (x := (nd : Int) - 6) (by omega),wI (x := (nd : Int) - 7) (by omega),wI (x := (nd : Int) - 8) (by omega)]
 rw [show (nd : Int) - 1 = ((nd - 1 : Nat) : Int) by omega,show (nd : Int) - 2 = ((nd - 2 : Nat) : Int) by omega,show (nd : Int) - 3 = ((nd - 3 : Nat) : Int) by omega,show (nd : Int) - 4 = ((nd - 4 : Nat) : Int) by omega,show (nd : Int) - 5 = ((nd - 5 : Nat) : Int) by omega,show (nd : Int) - 6 = ((nd - 6 : Nat) : Int) by omega,show (nd : Int) - 7 = ((nd - 7 : Nat) : Int) by omega,show (nd : Int) - 8 = ((nd - 8 : Nat) : Int) by omega]
 simp only [Option.bind_some,Int.toNat_natCast]
 rw [idx_ok (List.getElem?_eq_getElem (by first | omega | (simp only [List.length_set]; omega))),Option.bind_some,chk_d (by omega),Option.bind_some,idx_ok (List.getElem?_eq_getElem (by first | omega | (simp only [List.length_set]; omega))),Option.bind_some,chk_d (by omega),Option.bind_some,idx_ok (List.getElem?_eq_getElem (by first | omega | (simp only [List.length_set]; omega))),Option.bind_some,chk_d (by omega),Option.bind_some,idx_ok (List.getElem?_eq_getElem (by first | omega | (simp only [List.length_set]; omega))),Option.bind_some,chk_d (by omega),Option.bind_some,idx_ok (List.getElem?_eq_getElem (by first | omega | (simp only [List.length_set]; omega))),Option.bind_some,chk_d (by omega),Option.bind_some,idx_ok (List.getElem?_eq_getElem (by first | omega | (simp only [List.length_set]; omega))),Option.bind_some,chk_d (by omega),Option.bind_some,idx_ok (List.getElem?_eq_getElem (by first | omega | (simp only [List.length_set]; omega))),Option.bind_some,chk_d (by omega),Option.bind_some,idx_ok (List.getElem?_eq_getElem (by first | omega | (simp only [List.length_set]; omega))),Option.bind_some,chk_d (by omega),Option.bind_some]
 refine ⟨_,rfl,by simp,?_⟩
 rw [stk _ _ _ _ (by omega) (by first | omega | (simp only [List.length_set]; omega)),show nd - 8 + 1 = nd - 7 by omega,stk _ _ _ _ (by omega) (by first | omega | (simp only [List.length_set]; omega)),show nd - 7 + 1 = nd - 6 by omega,stk _ _ _ _ (by omega) (by first | omega | (simp only [List.length_set]; omega)),show nd - 6 + 1 = nd - 5 by omega,stk _ _ _ _ (by omega) (by first | omega | (simp only [List.length_set]; omega)),show nd - 5 + 1 = nd - 4 by omega,stk _ _ _ _ (by omega) (by first | omega | (simp only [List.length_set]; omega)),show nd - 4 + 1 = nd - 3 by omega,stk _ _ _ _ (by omega) (by first | omega | (simp only [List.length_set]; omega)),show nd - 3 + 1 = nd - 2 by omega,stk _ _ _ _ (by omega) (by first | omega | (simp only [List.length_set]; omega)),show nd - 2 + 1 = nd - 1 by omega,stk _ _ _ _ (by omega) (by first | omega | (simp only [List.length_set]; omega)),show nd - 1 + 1 = nd by omega]
 rw [show v / 10000 / 100 / 10 = u.toNat / 10000000 % 10 by omega,show v / 10000 / 100 % 10 = u.toNat / 1000000 % 10 by omega,show v / 10000 % 100 / 10 = u.toNat / 100000 % 10 by omega,show v / 10000 % 100 % 10 = u.toNat / 10000 % 10 by omega,show v % 10000 / 100 / 10 = u.toNat / 1000 % 10 by omega,show v % 10000 / 100 % 10 = u.toNat / 100 % 10 by omega,show v % 10000 % 100 / 10 = u.toNat / 10 % 10 by omega,show v % 10000 % 100 % 10 = u.toNat % 10 by omega]
 rfl
theorem base10_loop (len : Nat) (hm : len ≤ 1000) : ∀ q nd (a : List UInt8) (u : UInt64),nd / 8 = q → nd ≤ len → len ≤ a.length → u.toNat < 10 ^ nd →
  ∃ a' u',loopO (fun s => internal_strconv_formatBase10_l1 len s.1 s.2.1 s.2.2) (a,u,(nd : Int)) = some (a',u',((nd % 8 : Nat) : Int)) ∧ a'.length = a.length ∧ u'.toNat < 10 ^ (nd % 8) ∧ pd 10 (nd % 8) u'.toNat ++ (a'.take len).drop (nd % 8) = pd 10 nd u.toNat ++ (a.take len).drop nd := by
 intro q
 induction q with
 | zero =>
  intro nd a u h0 h1 h2 h3
  have e : nd % 8 = nd := by omega
  rw [e]
  refine ⟨a,u,loop_end ?_,rfl,h3,rfl⟩
  show internal_strconv_formatBase10_l1 len a u (nd : Int) = _
  unfold internal_strconv_formatBase10_l1
  rw [decide_eq_false (by omega)]
  rfl
 | succ q ih =>
  intro nd a u h0 h1 h2 h3
  obtain ⟨a1,g1,g2,g3⟩ := base10_round len nd a u (by omega) h1 h2 hm
  have e : (u / 100000000).toNat = u.toNat / 100000000 := by rw [UInt64.toNat_div]; rfl
  obtain ⟨m,rfl⟩ : ∃ m,nd = m + 8 := ⟨nd - 8,by omega⟩
  have hlt : u.toNat / 100000000 < 10 ^ m := by rw [Nat.div_lt_iff_lt_mul (by omega)]; rw [Nat.pow_add] at h3; exact h3
  rw [show m + 8 - 8 = m by omega] at g1 g3
  obtain ⟨a',u',h4,h5,h6,h7⟩ := ih m a1 (u / 100000000) (by omega) (by omega) (by omega) (by rw [e]; exact hlt)
  rw [show (m + 8) % 8 = m % 8 by omega]
  refine ⟨a',u',(loop_next (s' := (a1,u / 100000000,(m : Int))) g1).trans h4,by omega,h6,?_⟩
  rw [h7,e,g3,pd8,List.append_assoc]
end Go.Proofs.YtebbaokcgnjfiaaDoor.F
