import Derived.Test.YtebbaokcgnjfiaaDoorLBDig3
set_option linter.unusedVariables false
set_option linter.unusedSimpArgs false
namespace Go.Proofs.YtebbaokcgnjfiaaDoor.F
open Go Go.RowKit Go.Proofs.YtebbaokcgnjfiaaDoor.K
noncomputable def b10tail (len : Nat) (a1 : List UInt8) (u1 : UInt64) (nd : Int) : Option (List UInt8) :=
 cond (decide (nd ≥ 4))
 (Option.bind (idx L200 ((UInt32.ofInt (((UInt32.ofInt ((Int.tmod (Int.tmod ((UInt32.ofInt (u1.toNat : Int)).toNat : Int) 10000) 100) * 2)).toNat : Int) + 1)).toNat : Int)) fun c8 =>
 Option.bind (idx L200 ((UInt32.ofInt ((Int.tmod (Int.tmod ((UInt32.ofInt (u1.toNat : Int)).toNat : Int) 10000) 100) * 2)).toNat : Int)) fun c9 =>
 Option.bind (idx a1 (IntKind.i64.wrap (nd - 1))) fun x_8 =>
 Option.bind (chk (decide ((IntKind.i64.wrap (nd - 1)) < (len : Int)))) fun _ =>
 Option.bind (idx (a1.set ((IntKind.i64.wrap (nd - 1)).toNat) c8) (IntKind.i64.wrap (nd - 2))) fun x_9 =>
 Option.bind (chk (decide ((IntKind.i64.wrap (nd - 2)) < (len : Int)))) fun _ =>
 Option.bind (idx L200 ((UInt32.ofInt (((UInt32.ofInt (((UInt32.ofInt (Int.tdiv (Int.tmod ((UInt32.ofInt (u1.toNat : Int)).toNat : Int) 10000) 100)).toNat : Int) * 2)).toNat : Int) + 1)).toNat : Int)) fun c10 =>
 Option.bind (idx L200 ((UInt32.ofInt (((UInt32.ofInt (Int.tdiv (Int.tmod ((UInt32.ofInt (u1.toNat : Int)).toNat : Int) 10000) 100)).toNat : Int) * 2)).toNat : Int)) fun c11 =>
 Option.bind (idx ((a1.set ((IntKind.i64.wrap (nd - 1)).toNat) c8).set ((IntKind.i64.wrap (nd - 2)).toNat) c9) (IntKind.i64.wrap (nd - 3))) fun x_10 =>
 Option.bind (chk (decide ((IntKind.i64.wrap (nd - 3)) < (len : Int)))) fun _ =>
 Option.bind (idx (((a1.set ((IntKind.i64.wrap (nd - 1)).toNat) c8).set ((IntKind.i64.wrap (nd - 2)).toNat) c9).set ((IntKind.i64.wrap (nd - 3)).toNat) c10) (IntKind.i64.wrap (nd - 4))) fun x_11 =>
 Option.bind (chk (decide ((IntKind.i64.wrap (nd - 4)) < (len : Int)))) fun _ =>
 cond (decide ((IntKind.i64.wrap (nd - 4)) ≥ 2))
 (Option.bind (idx L200 ((UInt32.ofInt (((UInt32.ofInt ((Int.tmod ((UInt32.ofInt (Int.tdiv ((UInt32.ofInt (u1.toNat : Int)).toNat : Int) 10000)).toNat : Int) 100) * 2)).toNat : Int) + 1)).toNat : Int)) fun c12 =>
 Option.bind (idx L200 ((UInt32.ofInt ((Int.tmod ((UInt32.ofInt (Int.tdiv ((UInt32.ofInt (u1.toNat : Int)).toNat : Int) 10000)).toNat : Int) 100) * 2)).toNat : Int)) fun c13 =>
 Option.bind (idx ((((a1.set ((IntKind.i64.wrap (nd - 1)).toNat) c8).set ((IntKind.i64.wrap (nd - 2)).toNat) c9).set ((IntKind.i64.wrap (nd - 3)).toNat) c10).set ((IntKind.i64.wrap (nd - 4)).toNat) c11) (IntKind.i64.wrap ((IntKind.i64.wrap (nd - 4)) - 1))) fun x_12 =>
 Option.bind (chk (decide ((IntKind.i64.wrap ((IntKind.i64.wrap (nd - 4)) - 1)) < (len : Int)))) fun _ =>
 Option.bind (idx (((((a1.set ((IntKind.i64.wrap (nd - 1)).toNat) c8).set ((IntKind.i64.wrap (nd - 2)).toNat) c9).set ((IntKind.i64.wrap (nd - 3)).toNat) c10).set ((IntKind.i64.wrap (nd - 4)).toNat) c11).set ((IntKind.i64.wrap ((IntKind.i64.wrap (nd - 4)) - 1)).toNat) c12) (IntKind.i64.wrap ((IntKind.i64.wrap (nd - 4)) - 2))) fun x_13 =>
 Option.bind (chk (decide ((IntKind.i64.wrap ((IntKind.i64.wrap (nd - 4)) - 2)) < (len : Int)))) fun _ =>
 cond (decide ((IntKind.i64.wrap ((IntKind.i64.wrap (nd - 4)) - 2)) > 0))
 (Option.bind (idx ((((((a1.set ((IntKind.i64.wrap (nd - 1)).toNat) c8).set ((IntKind.i64.wrap (nd - 2)).toNat) c9).set ((IntKind.i64.wrap (nd - 3)).toNat) c10).set ((IntKind.i64.wrap (nd - 4)).toNat) c11).set ((IntKind.i64.wrap ((IntKind.i64.wrap (nd - 4)) - 1)).toNat) c12).set ((IntKind.i64.wrap ((IntKind.i64.wrap (nd - 4)) - 2)).toNat) c13) 0) fun x_14 =>
 Option.bind (chk (decide (0 < (len : Int)))) fun _ =>
 some (((((((a1.set ((IntKind.i64.wrap (nd - 1)).toNat) c8).set ((IntKind.i64.wrap (nd - 2)).toNat) c9).set ((IntKind.i64.wrap (nd - 3)).toNat) c10).set ((IntKind.i64.wrap (nd - 4)).toNat) c11).set ((IntKind.i64.wrap ((IntKind.i64.wrap (nd - 4)) - 1)).toNat) c12).set ((IntKind.i64.wrap ((IntKind.i64.wrap (nd - 4)) - 2)).toNat) c13).set ((0 : Int).toNat) (UInt8.ofInt ((UInt32.ofInt (48 + ((UInt32.ofInt (Int.tdiv ((UInt32.ofInt (Int.tdiv ((UInt32.ofInt (u1.toNat : Int)).toNat : Int) 10000)).toNat : Int) 100)).toNat : Int))).toNat : Int))))
 (some ((((((a1.set ((IntKind.i64.wrap (nd - 1)).toNat) c8).set ((IntKind.i64.wrap (nd - 2)).toNat) c9).set ((IntKind.i64.wrap (nd - 3)).toNat) c10).set ((IntKind.i64.wrap (nd - 4)).toNat) c11).set ((IntKind.i64.wrap ((IntKind.i64.wrap (nd - 4)) - 1)).toNat) c12).set ((IntKind.i64.wrap ((IntKind.i64.wrap (nd - 4)) - 2)).toNat) c13)))
 (cond (decide ((IntKind.i64.wrap (nd - 4)) > 0))
 (Option.bind (idx ((((a1.set ((IntKind.i64.wrap (nd - 1)).toNat) c8).set ((IntKind.i64.wrap (nd - 2)).toNat) c9).set ((IntKind.i64.wrap (nd - 3)).toNat) c10).set ((IntKind.i64.wrap (nd - 4)).toNat) c11) 0) fun x_15 =>
 Option.bind (chk (decide (0 < (len : Int)))) fun _ =>
 some (((((a1.set ((IntKind.i64.wrap (nd - 1)).toNat) c8).set ((IntKind.i64.wrap (nd - 2)).toNat) c9).set ((IntKind.i64.wrap (nd - 3)).toNat) c10).set ((IntKind.i64.wrap (nd - 4)).toNat) c11).set ((0 : Int).toNat) (UInt8.ofInt ((UInt32.ofInt (48 + ((UInt32.ofInt (Int.tdiv ((UInt32.ofInt (u1.toNat : Int)).toNat : Int) 10000)).toNat : Int))).toNat : Int))))
 (some ((((a1.set ((IntKind.i64.wrap (nd - 1)).toNat) c8).set ((IntKind.i64.wrap (nd - 2)).toNat) c9).set ((IntKind.i64.wrap (nd - 3)).toNat) c10).set ((IntKind.i64.wrap (nd - 4)).toNat) c11))))
 (cond (decide (nd ≥ 2))
 (Option.bind (idx L200 ((UInt32.ofInt (((UInt32.ofInt ((Int.tmod ((UInt32.ofInt (u1.toNat : Int)).toNat : Int) 100) * 2)).toNat : Int) + 1)).toNat : Int)) fun c14 =>
 Option.bind (idx L200 ((UInt32.ofInt ((Int.tmod ((UInt32.ofInt (u1.toNat : Int)).toNat : Int) 100) * 2)).toNat : Int)) fun c15 =>
 Option.bind (idx a1 (nd - 1)) fun x_16 =>
 Option.bind (chk (decide ((nd - 1) < (len : Int)))) fun _ =>
 Option.bind (idx (a1.set ((nd - 1).toNat) c14) (nd - 2)) fun x_17 =>
 Option.bind (chk (decide ((nd - 2) < (len : Int)))) fun _ =>
 cond (decide ((nd - 2) > 0))
 (Option.bind (idx ((a1.set ((nd - 1).toNat) c14).set ((nd - 2).toNat) c15) 0) fun x_18 =>
 Option.bind (chk (decide (0 < (len : Int)))) fun _ =>
 some (((a1.set ((nd - 1).toNat) c14).set ((nd - 2).toNat) c15).set ((0 : Int).toNat) (UInt8.ofInt ((UInt32.ofInt (48 + ((UInt32.ofInt (Int.tdiv ((UInt32.ofInt (u1.toNat : Int)).toNat : Int) 100)).toNat : Int))).toNat : Int))))
 (some ((a1.set ((nd - 1).toNat) c14).set ((nd - 2).toNat) c15)))
 (cond (decide (nd > 0))
 (Option.bind (idx a1 0) fun x_19 =>
 Option.bind (chk (decide (0 < (len : Int)))) fun _ =>
 some (a1.set ((0 : Int).toNat) (UInt8.ofInt ((UInt32.ofInt (48 + ((UInt32.ofInt (u1.toNat : Int)).toNat : Int))).toNat : Int))))
 (some a1)))
theorem base10_eq (a : List UInt8) (len : Nat) (u : UInt64) : internal_strconv_formatBase10 a len u = Option.bind (loopO (fun s => internal_strconv_formatBase10_l1 len s.1 s.2.1 s.2.2) (a,u,(len : Int))) fun s => b10tail len s.1 s.2.1 s.2.2 := rfl
theorem tail0 (len : Nat) (a : List UInt8) (u : UInt64) (h1 : 0 ≤ len) (h2 : len ≤ a.length) (hu : u.toNat < 10 ^ 0) : ∃ r,b10tail len a u ((0 : Nat) : Int) = some r ∧ r.length = a.length ∧ r.take len = pd 10 0 u.toNat ++ (a.take len).drop 0 := by
 have hl : u.toNat < 10000000 := by omega
 have e1 : ((UInt32.ofInt (u.toNat : Int)).toNat : Int) = (u.toNat : Int) := o32 (by omega)
 unfold b10tail
 rw [decide_eq_false (by omega),cond_false,decide_eq_false (by omega),cond_false,decide_eq_false (by omega),cond_false]
 refine ⟨_,rfl,by simp only [List.length_set],?_⟩
 rfl
theorem tail1 (len : Nat) (a : List UInt8) (u : UInt64) (h1 : 1 ≤ len) (h2 : len ≤ a.length) (hu : u.toNat < 10 ^ 1) : ∃ r,b10tail len a u ((1 : Nat) : Int) = some r ∧ r.length = a.length ∧ r.take len = pd 10 1 u.toNat ++ (a.take len).drop 1 := by
 have hl : u.toNat < 10000000 := by omega
 have e1 : ((UInt32.ofInt (u.toNat : Int)).toNat : Int) = (u.toNat : Int) := o32 (by omega)
 unfold b10tail
 rw [decide_eq_false (by omega),cond_false,decide_eq_false (by omega),cond_false,decide_eq_true (by omega),cond_true,e1,show (0 : Int) = ((0 : Nat) : Int) from rfl,idx_ok (List.getElem?_eq_getElem (by first | omega | (simp only [List.length_set]; omega))),Option.bind_some,chk_d (by omega),Option.bind_some,Int.toNat_natCast,show (48 : Int) + ((u.toNat : Nat) : Int) = ((48 + u.toNat : Nat) : Int) by omega,o32 (by omega),o8 (by omega)]
 refine ⟨_,rfl,by simp only [List.length_set],?_⟩
 rw [← List.drop_zero (l := List.take len _),stk _ _ _ _ (by omega) (by first | omega | (simp only [List.length_set]; omega))]
 have e9 : u.toNat = u.toNat % 10 := by omega
 rw [show dc u.toNat = dc (u.toNat % 10) from congrArg dc e9]
 simp only [pd,Nat.div_div_eq_div_mul,List.append_assoc,List.cons_append,List.nil_append]
theorem tail2 (len : Nat) (a : List UInt8) (u : UInt64) (h1 : 2 ≤ len) (h2 : len ≤ a.length) (hu : u.toNat < 10 ^ 2) : ∃ r,b10tail len a u ((2 : Nat) : Int) = some r ∧ r.length = a.length ∧ r.take len = pd 10 2 u.toNat ++ (a.take len).drop 2 := by
 have hl : u.toNat < 10000000 := by omega
 have e1 : ((UInt32.ofInt (u.toNat : Int)).toNat : Int) = (u.toNat : Int) := o32 (by omega)
 unfold b10tail
 have e2 : ((UInt32.ofInt ((u.toNat / 100 : Nat) : Int)).toNat : Int) = ((u.toNat / 100 : Nat) : Int) := o32 (by omega)
 rw [decide_eq_false (by omega),cond_false,decide_eq_true (by omega),cond_true]
 simp only [e1,e2,tm100,tm10k,td100,td10k]
 rw [x0 (k := u.toNat % 100) (by omega),x1 (k := u.toNat % 100) (by omega),idx_ok (l200 (u.toNat % 100) (by omega)).1,idx_ok (l200 (u.toNat % 100) (by omega)).2]
 rw [show ((2 : Nat) : Int) - 1 = ((1 : Nat) : Int) from rfl,show ((2 : Nat) : Int) - 2 = ((0 : Nat) : Int) from rfl]
 simp only [Option.bind_some,Int.toNat_natCast]
 rw [idx_ok (List.getElem?_eq_getElem (by first | omega | (simp only [List.length_set]; omega))),Option.bind_some,chk_d (by omega),Option.bind_some,idx_ok (List.getElem?_eq_getElem (by first | omega | (simp only [List.length_set]; omega))),Option.bind_some,chk_d (by omega),Option.bind_some]
 rw [decide_eq_false (by omega),cond_false]
 refine ⟨_,rfl,by simp only [List.length_set],?_⟩
 rw [← List.drop_zero (l := List.take len _),stk _ _ _ _ (by omega) (by first | omega | (simp only [List.length_set]; omega)),stk _ _ _ _ (by omega) (by first | omega | (simp only [List.length_set]; omega))]
 rw [show u.toNat % 100 % 10 = u.toNat % 10 by omega,show u.toNat % 100 / 10 = u.toNat / 10 % 10 by omega]
 simp only [pd,Nat.div_div_eq_div_mul,List.append_assoc,List.cons_append,List.nil_append]
theorem tail3 (len : Nat) (a : List UInt8) (u : UInt64) (h1 : 3 ≤ len) (h2 : len ≤ a.length) (hu : u.toNat < 10 ^ 3) : ∃ r,b10tail len a u ((3 : Nat) : Int) = some r ∧ r.length = a.length ∧ r.take len = pd 10 3 u.toNat ++ (a.take len).drop 3 := by
 have hl : u.toNat < 10000000 := by omega
 have e1 : ((UInt32.ofInt (u.toNat : Int)).toNat : Int) = (u.toNat : Int) := o32 (by omega)
 unfold b10tail
 have e2 : ((UInt32.ofInt ((u.toNat / 100 : Nat) : Int)).toNat : Int) = ((u.toNat / 100 : Nat) : Int) := o32 (by omega)
 rw [decide_eq_false (by omega),cond_false,decide_eq_true (by omega),cond_true]
 simp only [e1,e2,tm100,tm10k,td100,td10k]
 rw [x0 (k := u.toNat % 100) (by omega),x1 (k := u.toNat % 100) (by omega),idx_ok (l200 (u.toNat % 100) (by omega)).1,idx_ok (l200 (u.toNat % 100) (by omega)).2]
 rw [show ((3 : Nat) : Int) - 1 = ((2 : Nat) : Int) from rfl,show ((3 : Nat) : Int) - 2 = ((1 : Nat) : Int) from rfl]
 simp only [Option.bind_some,Int.toNat_natCast]
 rw [idx_ok (List.getElem?_eq_getElem (by first | omega | (simp only [List.length_set]; omega))),Option.bind_some,chk_d (by omega),Option.bind_some,idx_ok (List.getElem?_eq_getElem (by first | omega | (simp only [List.length_set]; omega))),Option.bind_some,chk_d (by omega),Option.bind_some]
 rw [decide_eq_true (by omega),cond_true,show (0 : Int) = ((0 : Nat) : Int) from rfl,idx_ok (List.getElem?_eq_getElem (by first | omega | (simp only [List.length_set]; omega))),Option.bind_some,chk_d (by omega),Option.bind_some,Int.toNat_natCast,show (48 : Int) + ((u.toNat / 100 : Nat) : Int) = ((48 + u.toNat / 100 : Nat) : Int) by omega,o32 (by omega),o8 (by omega)]
 refine ⟨_,rfl,by simp only [List.length_set],?_⟩
 rw [← List.drop_zero (l := List.take len _),stk _ _ _ _ (by omega) (by first | omega | (simp only [List.length_set]; omega)),stk _ _ _ _ (by omega) (by first | omega | (simp only [List.length_set]; omega)),stk _ _ _ _ (by omega) (by first | omega | (simp only [List.length_set]; omega))]
 rw [show u.toNat % 100 % 10 = u.toNat % 10 by omega,show u.toNat % 100 / 10 = u.toNat / 10 % 10 by omega,show u.toNat / 100 = u.toNat / 100 % 10 by omega]
 simp only [pd,Nat.div_div_eq_div_mul,List.append_assoc,List.cons_append,List.nil_append]
theorem tail4 (len : Nat) (a : List UInt8) (u : UInt64) (h1 : 4 ≤ len) (h2 : len ≤ a.length) (hu : u.toNat < 10 ^ 4) : ∃ r,b10tail len a u ((4 : Nat) : Int) = some r ∧ r.length = a.length ∧ r.take len = pd 10 4 u.toNat ++ (a.take len).drop 4 := by
 have hl : u.toNat < 10000000 := by omega
 have e1 : ((UInt32.ofInt (u.toNat : Int)).toNat : Int) = (u.toNat : Int) := o32 (by omega)
 unfold b10tail
 have e2 : ((UInt32.ofInt ((u.toNat / 10000 : Nat) : Int)).toNat : Int) = ((u.toNat / 10000 : Nat) : Int) := o32 (by omega)
 have e3 : ((UInt32.ofInt ((u.toNat % 10000 / 100 : Nat) : Int)).toNat : Int) = ((u.toNat % 10000 / 100 : Nat) : Int) := o32 (by omega)
 have e4 : ((UInt32.ofInt ((u.toNat / 10000 / 100 : Nat) : Int)).toNat : Int) = ((u.toNat / 10000 / 100 : Nat) : Int) := o32 (by omega)
 rw [decide_eq_true (by omega),cond_true]
 simp only [e1,e2,e3,e4,tm100,tm10k,td100,td10k]
 rw [x0 (k := u.toNat % 10000 % 100) (by omega),x1 (k := u.toNat % 10000 % 100) (by omega),x0 (k := u.toNat % 10000 / 100) (by omega),x1 (k := u.toNat % 10000 / 100) (by omega)]
 rw [idx_ok (l200 (u.toNat % 10000 % 100) (by omega)).1,idx_ok (l200 (u.toNat % 10000 % 100) (by omega)).2,idx_ok (l200 (u.toNat % 10000 / 100) (by omega)).1,idx_ok (l200 (u.toNat % 10000 / 100) (by omega)).2]
 rw [show IntKind.i64.wrap (((4 : Nat) : Int) - 1) = ((3 : Nat) : Int) from by decide,show IntKind.i64.wrap (((4 : Nat) : Int) - 2) = ((2 : Nat) : Int) from by decide,show IntKind.i64.wrap (((4 : Nat) : Int) - 3) = ((1 : Nat) : Int) from by decide,show IntKind.i64.wrap (((4 : Nat) : Int) - 4) = ((0 : Nat) : Int) from by decide]
 simp only [Option.bind_some,Int.toNat_natCast]
 rw [idx_ok (List.getElem?_eq_getElem (by first | omega | (simp only [List.length_set]; omega))),Option.bind_some,chk_d (by omega),Option.bind_some,idx_ok (List.getElem?_eq_getElem (by first | omega | (simp only [List.length_set]; omega))),Option.bind_some,chk_d (by omega),Option.bind_some,idx_ok (List.getElem?_eq_getElem (by first | omega | (simp only [List.length_set]; omega))),Option.bind_some,chk_d (by omega),Option.bind_some,idx_ok (List.getElem?_eq_getElem (by first | omega | (simp only [List.length_set]; omega))),Option.bind_some,chk_d (by omega),Option.bind_some]
 rw [decide_eq_false (by omega),cond_false,decide_eq_false (by omega),cond_false]
 refine ⟨_,rfl,by simp only [List.length_set],?_⟩
 rw [← List.drop_zero (l := List.take len _),stk _ _ _ _ (by omega) (by first | omega | (simp only [List.length_set]; omega)),stk _ _ _ _ (by omega) (by first | omega | (simp only [List.length_set]; omega)),stk _ _ _ _ (by omega) (by first | omega | (simp only [List.length_set]; omega)),stk _ _ _ _ (by omega) (by first | omega | (simp only [List.length_set]; omega))]
 rw [show u.toNat % 10000 % 100 % 10 = u.toNat % 10 by omega,show u.toNat % 10000 % 100 / 10 = u.toNat / 10 % 10 by omega,show u.toNat % 10000 / 100 % 10 = u.toNat / 100 % 10 by omega,show u.toNat % 10000 / 100 / 10 = u.toNat / 1000 % 10 by omega]
 simp only [pd,Nat.div_div_eq_div_mul,List.append_assoc,List.cons_append,List.nil_append]
theorem tail5 (len : Nat) (a : List UInt8) (u : UInt64) (h1 : 5 ≤ len) (h2 : len ≤ a.length) (hu : u.toNat < 10 ^ 5) : ∃ r,b10tail len a u ((5 : Nat) : Int) = some r ∧ r.length = a.length ∧ r.take len = pd 10 5 u.toNat ++ (a.take len).drop 5 := by
 have hl : u.toNat < 10000000 := by omega
 have e1 : ((UInt32.ofInt (u.toNat : Int)).toNat : Int) = (u.toNat : Int) := o32 (by omega)
 unfold b10tail
 have e2 : ((UInt32.ofInt ((u.toNat / 10000 : Nat) : Int)).toNat : Int) = ((u.toNat / 10000 : Nat) : Int) := o32 (by omega)
 have e3 : ((UInt32.ofInt ((u.toNat % 10000 / 100 : Nat) : Int)).toNat : Int) = ((u.toNat % 10000 / 100 : Nat) : Int) := o32 (by omega)
 have e4 : ((UInt32.ofInt ((u.toNat / 10000 / 100 : Nat) : Int)).toNat : Int) = ((u.toNat / 10000 / 100 : Nat) : Int) := o32 (by omega)
 rw [decide_eq_true (by omega),cond_true]
 simp only [e1,e2,e3,e4,tm100,tm10k,td100,td10k]
 rw [x0 (k := u.toNat % 10000 % 100) (by omega),x1 (k := u.toNat % 10000 % 100) (by omega),x0 (k := u.toNat % 10000 / 100) (by omega),x1 (k := u.toNat % 10000 / 100) (by omega)]
 rw [idx_ok (l200 (u.toNat % 10000 % 100) (by omega)).1,idx_ok (l200 (u.toNat % 10000 % 100) (by omega)).2,idx_ok (l200 (u.toNat % 10000 / 100) (by omega)).1,idx_ok (l200 (u.toNat % 10000 / 100) (by omega)).2]
 rw [show IntKind.i64.wrap (((5 : Nat) : Int) - 1) = ((4 : Nat) : Int) from by decide,show IntKind.i64.wrap (((5 : Nat) : Int) - 2) = ((3 : Nat) : Int) from by decide,show IntKind.i64.wrap (((5 : Nat) : Int) - 3) = ((2 : Nat) : Int) from by decide,show IntKind.i64.wrap (((5 : Nat) : Int) - 4) = ((1 : Nat) : Int) from by decide]
 simp only [Option.bind_some,Int.toNat_natCast]
 rw [idx_ok (List.getElem?_eq_getElem (by first | omega | (simp only [List.length_set]; omega))),Option.bind_some,chk_d (by omega),Option.bind_some,idx_ok (List.getElem?_eq_getElem (by first | omega | (simp only [List.length_set]; omega))),Option.bind_some,chk_d (by omega),Option.bind_some,idx_ok (List.getElem?_eq_getElem (by first | omega | (simp only [List.length_set]; omega))),Option.bind_some,chk_d (by omega),Option.bind_some,idx_ok (List.getElem?_eq_getElem (by first | omega | (simp only [List.length_set]; omega))),Option.bind_some,chk_d (by omega),Option.bind_some]
 rw [decide_eq_false (by omega),cond_false,decide_eq_true (by omega),cond_true,show (0 : Int) = ((0 : Nat) : Int) from rfl,idx_ok (List.getElem?_eq_getElem (by first | omega | (simp only [List.length_set]; omega))),Option.bind_some,chk_d (by omega),Option.bind_some,Int.toNat_natCast,show (48 : Int) + ((u.toNat / 10000 : Nat) : Int) = ((48 + u.toNat / 10000 : Nat) : Int) by omega,o32 (by omega),o8 (by omega)]
 refine ⟨_,rfl,by simp only [List.length_set],?_⟩
 rw [← List.drop_zero (l := List.take len _),stk _ _ _ _ (by omega) (by first | omega | (simp only [List.length_set]; omega)),stk _ _ _ _ (by omega) (by first | omega | (simp only [List.length_set]; omega)),stk _ _ _ _ (by omega) (by first | omega | (simp only [List.length_set]; omega)),stk _ _ _ _ (by omega) (by first | omega | (simp only [List.length_set]; omega)),stk _ _ _ _ (by omega) (by first | omega | (simp only [List.length_set]; omega))]
 rw [show u.toNat % 10000 % 100 % 10 = u.toNat % 10 by omega,show u.toNat % 10000 % 100 / 10 = u.toNat / 10 % 10 by omega,show u.toNat % 10000 / 100 % 10 = u.toNat / 100 % 10 by omega,show u.toNat % 10000 / 100 / 10 = u.toNat / 1000 % 10 by omega,show u.toNat / 10000 = u.toNat / 10000 % 10 by omega]
 simp only [pd,Nat.div_div_eq_div_mul,List.append_assoc,List.cons_append,List.nil_append]
theorem tail6 (len : Nat) (a : List UInt8) (u : UInt64) (h1 : 6 ≤ len) (h2 : len ≤ a.length) (hu : u.toNat < 10 ^ 6) : ∃ r,b10tail len a u ((6 : Nat) : Int) = some r ∧ r.length = a.length ∧ r.take len = pd 10 6 u.toNat ++ (a.take len).drop 6 := by
 have hl : u.toNat < 10000000 := by omega
 have e1 : ((UInt32.ofInt (u.toNat : Int)).toNat : Int) = (u.toNat : Int) := o32 (by omega)
 unfold b10tail
 have e2 : ((UInt32.ofInt ((u.toNat / 10000 : Nat) : Int)).toNat : Int) = ((u.toNat / 10000 : Nat) : Int) := o32 (by omega)
 have e3 : ((UInt32.ofInt ((u.toNat % 10000 / 100 : Nat) : Int)).toNat : Int) = ((u.toNat % 10000 / 100 : Nat) : Int) := o32 (by omega)
 have e4 : ((UInt32.ofInt ((u.toNat / 10000 / 100 : Nat) : Int)).toNat : Int) = ((u.toNat / 10000 / 100 : Nat) : Int) := o32 (by omega)
 rw [decide_eq_true (by omega),cond_true]
 simp only [e1,e2,e3,e4,tm100,tm10k,td100,td10k]
 rw [x0 (k := u.toNat % 10000 % 100) (by omega),x1 (k := u.toNat % 10000 % 100) (by omega),x0 (k := u.toNat % 10000 / 100) (by omega),x1 (k := u.toNat % 10000 / 100) (by omega)]
 rw [idx_ok (l200 (u.toNat % 10000 % 100) (by omega)).1,idx_ok (l200 (u.toNat % 10000 % 100) (by omega)).2,idx_ok (l200 (u.toNat % 10000 / 100) (by omega)).1,idx_ok (l200 (u.toNat % 10000 / 100) (by omega)).2]
 rw [show IntKind.i64.wrap (((6 : Nat) : Int) - 1) = ((5 : Nat) : Int) from by decide,show IntKind.i64.wrap (((6 : Nat) : Int) - 2) = ((4 : Nat) : Int) from by decide,show IntKind.i64.wrap (((6 : Nat) : Int) - 3) = ((3 : Nat) : Int) from by decide,show IntKind.i64.wrap (((6 : Nat) : Int) - 4) = ((2 : Nat) : Int) from by decide]
 rw [show IntKind.i64.wrap (((2 : Nat) : Int) - 1) = ((1 : Nat) : Int) from by decide,show IntKind.i64.wrap (((2 : Nat) : Int) - 2) = ((0 : Nat) : Int) from by decide]
 rw [x0 (k := u.toNat / 10000 % 100) (by omega),x1 (k := u.toNat / 10000 % 100) (by omega),idx_ok (l200 (u.toNat / 10000 % 100) (by omega)).1,idx_ok (l200 (u.toNat / 10000 % 100) (by omega)).2]
 simp only [Option.bind_some,Int.toNat_natCast]
 rw [idx_ok (List.getElem?_eq_getElem (by first | omega | (simp only [List.length_set]; omega))),Option.bind_some,chk_d (by omega),Option.bind_some,idx_ok (List.getElem?_eq_getElem (by first | omega | (simp only [List.length_set]; omega))),Option.bind_some,chk_d (by omega),Option.bind_some,idx_ok (List.getElem?_eq_getElem (by first | omega | (simp only [List.length_set]; omega))),Option.bind_some,chk_d (by omega),Option.bind_some,idx_ok (List.getElem?_eq_getElem (by first | omega | (simp only [List.length_set]; omega))),Option.bind_some,chk_d (by omega),Option.bind_some]
 rw [decide_eq_true (by omega),cond_true]
 rw [idx_ok (List.getElem?_eq_getElem (by first | omega | (simp only [List.length_set]; omega))),Option.bind_some,chk_d (by omega),Option.bind_some,idx_ok (List.getElem?_eq_getElem (by first | omega | (simp only [List.length_set]; omega))),Option.bind_some,chk_d (by omega),Option.bind_some]
 rw [decide_eq_false (by omega),cond_false]
 refine ⟨_,rfl,by simp only [List.length_set],?_⟩
 rw [← List.drop_zero (l := List.take len _),stk _ _ _ _ (by omega) (by first | omega | (simp only [List.length_set]; omega)),stk _ _ _ _ (by omega) (by first | omega | (simp only [List.length_set]; omega)),stk _ _ _ _ (by omega) (by first | omega | (simp only [List.length_set]; omega)),stk _ _ _ _ (by omega) (by first | omega | (simp only [List.length_set]; omega)),stk _ _ _ _ (by omega) (by first | omega | (simp only [List.length_set]; omega)),stk _ _ _ _ (by omega) (by first | omega | (simp only [List.length_set]; omega))]
 rw [show u.toNat % 10000 % 100 % 10 = u.toNat % 10 by omega,show u.toNat % 10000 % 100 / 10 = u.toNat / 10 % 10 by omega,show u.toNat % 10000 / 100 % 10 = u.toNat / 100 % 10 by omega,show u.toNat % 10000 / 100 / 10 = u.toNat / 1000 % 10 by omega,show u.toNat / 10000 % 100 % 10 = u.toNat / 10000 % 10 by omega,show u.toNat / 10000 % 100 / 10 = u.toNat / 100000 % 10 by omega]
 simp only [pd,Nat.div_div_eq_div_mul,List.append_assoc,List.cons_append,List.nil_append]
theorem tail7 (len : Nat) (a : List UInt8) (u : UInt64) (h1 : 7 ≤ len) (h2 : len ≤ a.length) (hu : u.toNat < 10 ^ 7) : ∃ r,b10tail len a u ((7 : Nat) : Int) = some r ∧ r.length = a.length ∧ r.take len = pd 10 7 u.toNat ++ (a.take len).drop 7 := by
 have hl : u.toNat < 10000000 := by omega
 have e1 : ((UInt32.ofInt (u.toNat : Int)).toNat : Int) = (u.toNat : Int) := o32 (by omega)
 unfold b10tail
 have e2 : ((UInt32.ofInt ((u.toNat / 10000 : Nat) : Int)).toNat : Int) = ((u.toNat / 10000 : Nat) : Int) := o32 (by omega)
 have e3 : ((UInt32.ofInt ((u.toNat % 10000 / 100 : Nat) : Int)).toNat : Int) = ((u.toNat % 10000 / 100 : Nat) : Int) := o32 (by omega)
 have e4 : ((UInt32.ofInt ((u.toNat / 10000 / 100 : Nat) : Int)).toNat : Int) = ((u.toNat / 10000 / 100 : Nat) : Int) := o32 (by omega)
 rw [decide_eq_true (by omega),cond_true]
 simp only [e1,e2,e3,e4,tm100,tm10k,td100,td10k]
 rw [x0 (k := u.toNat % 10000 % 100) (by omega),x1 (k := u.toNat % 10000 % 100) (by omega),x0 (k := u.toNat % 10000 / 100) (by omega),x1 (k := u.toNat % 10000 / 100) (by omega)]
 rw [idx_ok (l200 (u.toNat % 10000 % 100) (by omega)).1,idx_ok (l200 (u.toNat % 10000 % 100) (by omega)).2,idx_ok (l200 (u.toNat % 10000 / 100) (by omega)).1,idx_ok (l200 (u.toNat % 10000 / 100) (by omega)).2]
 rw [show IntKind.i64.wrap (((7 : Nat) : Int) - 1) = ((6 : Nat) : Int) from by decide,show IntKind.i64.wrap (((7 : Nat) : Int) - 2) = ((5 : Nat) : Int) from by decide,show IntKind.i64.wrap (((7 : Nat) : Int) - 3) = ((4 : Nat) : Int) from by decide,show IntKind.i64.wrap (((7 : Nat) : Int) - 4) = ((3 : Nat) : Int) from by decide]
 rw [show IntKind.i64.wrap (((3 : Nat) : Int) - 1) = ((2 : Nat) : Int) from by decide,show IntKind.i64.wrap (((3 : Nat) : Int) - 2) = ((1 : Nat) : Int) from by decide]
 rw [x0 (k := u.toNat / 10000 % 100) (by omega),x1 (k := u.toNat / 10000 % 100) (by omega),idx_ok (l200 (u.toNat / 10000 % 100) (by omega)).1,idx_ok (l200 (u.toNat / 10000 % 100) (by omega)).2]
 simp only [Option.bind_some,Int.toNat_natCast]
 rw [idx_ok (List.getElem?_eq_getElem (by first | omega | (simp only [List.length_set]; omega))),Option.bind_some,chk_d (by omega),Option.bind_some,idx_ok (List.getElem?_eq_getElem (by first | omega | (simp only [List.length_set]; omega))),Option.bind_some,chk_d (by omega),Option.bind_some,idx_ok (List.getElem?_eq_getElem (by first | omega | (simp only [List.length_set]; omega))),Option.bind_some,chk_d (by omega),Option.bind_some,idx_ok (List.getElem?_eq_getElem (by first | omega | (simp only [List.length_set]; omega))),Option.bind_some,chk_d (by omega),Option.bind_some]
 rw [decide_eq_true (by omega),cond_true]
 rw [idx_ok (List.getElem?_eq_getElem (by first | omega | (simp only [List.length_set]; omega))),Option.bind_some,chk_d (by omega),Option.bind_some,idx_ok (List.getElem?_eq_getElem (by first | omega | (simp only [List.length_set]; omega))),Option.bind_some,chk_d (by omega),Option.bind_some]
 rw [decide_eq_true (by omega),cond_true,show (0 : Int) = ((0 : Nat) : Int) from rfl,idx_ok (List.getElem?_eq_getElem (by first | omega | (simp only [List.length_set]; omega))),Option.bind_some,chk_d (by omega),Option.bind_some,Int.toNat_natCast,show (48 : Int) + ((u.toNat / 10000 / 100 : Nat) : Int) = ((48 + u.toNat / 10000 / 100 : Nat) : Int) by omega,o32 (by omega),o8 (by omega)]
 refine ⟨_,rfl,by simp only [List.length_set],?_⟩
 rw [← List.drop_zero (l := List.take len _),stk _ _ _ _ (by omega) (by first | omega | (simp only [List.length_set]; omega)),stk _ _ _ _ (by omega) (by first | omega | (simp only [List.length_set]; omega)),stk _ _ _ _ (by omega) (by first | omega | (simp only [List.length_set]; omega)),stk _ _ _ _ (by omega) (by first | omega | (simp only [List.length_set]; omega)),stk _ _ _ _ (by omega) (by first | omega | (simp only [List.length_set]; omega)),stk _ _ _ _ (by omega) (by first | omega | (simp only [List.length_set]; omega)),stk _ _ _ _ (by omega) (by first | omega | (simp only [List.length_set]; omega))]
 rw [show u.toNat % 10000 % 100 % 10 = u.toNat % 10 by omega,show u.toNat % 10000 % 100 / 10 = u.toNat / 10 % 10 by omega,show u.toNat % 10000 / 100 % 10 = u.toNat / 100 % 10 by omega,show u.toNat % 10000 / 100 / 10 = u.toNat / 1000 % 10 by omega,show u.toNat / 10000 % 100 % 10 = u.toNat / 10000 % 10 by omega,show u.toNat / 10000 % 100 / 10 = u.toNat / 100000 % 10 by omega,show u.toNat / 10000 / 100 = u.toNat / 1000000 % 10 by omega]
 simp only [pd,Nat.div_div_eq_div_mul,List.append_assoc,List.cons_append,List.nil_append]
theorem tails (len nd : Nat) (a : List UInt8) (u : UInt64) (h0 : nd < 8) (h1 : nd ≤ len) (h2 : len ≤ a.length) (hu : u.toNat < 10 ^ nd) : ∃ r,b10tail len a u (nd : Int) = some r ∧ r.length = a.length ∧ r.take len = pd 10 nd u.toNat ++ (a.take len).drop nd := by
 rcases (show nd = 0 ∨ nd = 1 ∨ nd = 2 ∨ nd = 3 ∨ nd = 4 ∨ nd = 5 ∨ nd = 6 ∨ nd = 7 by omega) with rfl | rfl | rfl | rfl | rfl | rfl | rfl | rfl
 ·exact tail0 len a u h1 h2 hu
 ·exact tail1 len a u h1 h2 hu
 ·exact tail2 len a u h1 h2 hu
 ·exact tail3 len a u h1 h2 hu
 ·exact tail4 len a u h1 h2 hu
 ·exact tail5 len a u h1 h2 hu
 ·exact tail6 len a u h1 h2 hu
 ·exact tail7 len a u h1 h2 hu
theorem formatBase10_ok (a : List UInt8) (len : Nat) (u : UInt64) (hm : len ≤ 1000) (h2 : len ≤ a.length) (hu : u.toNat < 10 ^ len) : ∃ r,internal_strconv_formatBase10 a len u = some r ∧ r.length = a.length ∧ r.take len = pd 10 len u.toNat := by
 obtain ⟨a',u',h3,h4,h5,h6⟩ := base10_loop len hm (len / 8) len a u rfl (Nat.le_refl _) h2 hu
 obtain ⟨r,h7,h8,h9⟩ := tails len (len % 8) a' u' (by omega) (by omega) (by omega) h5
 refine ⟨r,?_,by omega,?_⟩
 ·rw [base10_eq,h3]; exact h7
 ·rw [h9,h6,List.drop_eq_nil_of_le (by rw [List.length_take]; omega),List.append_nil]
theorem AppendUint10 {k : Nat} {u : UInt64} (dst : List UInt8) (hd : Dg 10 k u.toNat) (hl : dst.length + 64 ≤ 137438953472) : internal_strconv_AppendUint dst u 10 = some (dst ++ pd 10 k u.toNat) := by
 have hk : k ≤ 20 := dg_le hd (j := 20) (by have := u.toNat_lt; omega) (by omega) (by omega)
 unfold internal_strconv_AppendUint
 rw [show ((10 : Int) == 10) = true from rfl,cond_true]
 by_cases hc : u.toNat < 100
 ·rw [decide_eq_true (by omega),cond_true,wI (by omega),small_ok _ hc,Option.bind_some]
  have e : (if u.toNat < 10 then pd 10 1 u.toNat else pd 10 2 u.toNat) = pd 10 k u.toNat := by
   split
   ·rename_i h
    have := dg_le hd (j := 1) h (by omega) (by omega)
    rw [show k = 1 by have := hd.1; omega]
   ·rename_i h
    have := dg_le hd (j := 2) (by omega) (by omega) (by omega)
    rcases (show k = 1 ∨ k = 2 by have := hd.1; omega) with rfl | rfl
    ·have := hd.2.1; omega
    ·rfl
  rw [e,app_ok (by rw [pd_len]; omega)]
  rfl
 ·rw [decide_eq_false (by omega),cond_false,numDigits_ok (by omega) hd,Option.bind_some,chk_d (by omega),Option.bind_some,Int.toNat_natCast]
  obtain ⟨r,h1,h2,h3⟩ := formatBase10_ok (List.replicate 24 0) k u (by omega) (by simp; omega) hd.2.1
  rw [h1,Option.bind_some,h3,Option.bind_some,chk_d (pd_len _ _ _),Option.bind_some,app_ok (by rw [pd_len]; omega)]
  rfl
theorem AppendInt_ok {b k n : Nat} (hb : b = 8 ∨ b = 10) (dst : List UInt8) (hd : Dg b k n) (hn : n < 9223372036854775808) (hl : dst.length + 64 ≤ 137438953472) : strconv_AppendInt dst (n : Int) (b : Int) = some (dst ++ pd b k n) := by
 have e : (UInt64.ofInt (n : Int)).toNat = n := by
  have := q64_wrap (n : Int)
  rw [wu64m] at this
  omega
 unfold strconv_AppendInt internal_strconv_AppendInt
 rw [decide_eq_false (by omega),cond_false]
 rcases hb with rfl | rfl
 ·have := AppendUint8 (u := UInt64.ofInt (n : Int)) dst (by rw [e]; exact hd) hl
  rw [e] at this
  rw [show (((8 : Nat) : Int)) = 8 from rfl,this]
  rfl
 ·have := AppendUint10 (u := UInt64.ofInt (n : Int)) dst (by rw [e]; exact hd) hl
  rw [e] at this
  rw [show (((10 : Nat) : Int)) = 10 from rfl,this]
  rfl
theorem num_ok {b k n : Nat} (hb : b = 8 ∨ b = 10) (dst : List UInt8) (hd : Dg b k n) (hn : n < 9223372036854775808) (hl : dst.length + 65 ≤ 137438953472) : manifest_num dst (n : Int) (b : Int) = some (dst ++ 32 :: pd b k n) := by
 unfold manifest_num
 rw [app_ok (by simp; omega),Option.bind_some,AppendInt_ok hb _ hd hn (by simp; omega),Option.bind_some,List.append_assoc]
 rfl
end Go.Proofs.YtebbaokcgnjfiaaDoor.F
