import Derived.Test.YtebbaokcgnjfiaaDoorLBBk6
set_option linter.unusedVariables false
set_option linter.unusedSimpArgs false
namespace Go.Proofs.YtebbaokcgnjfiaaDoor.F
open Go Go.RowKit Go.Proofs.YtebbaokcgnjfiaaDoor.K
section
variable {b : List UInt8} {l : List TApiEntry} {fu mo : Bool}
theorem letter_of : ∀ k : Nat,k < 6 → ∀ j : Nat,j < 6 → ([102,100,108,98,99,104] : List UInt8)[j]? = some (letterK ((k : Int) + 1)) → j = k := by decide
theorem letter_is : ∀ k : Nat,k < 6 → ([102,100,108,98,99,104] : List UInt8)[k]? = some (letterK ((k : Int) + 1)) := by decide
theorem letter_no : ∀ j : Nat,j < 6 → ([102,100,108,98,99,104] : List UInt8)[j]? ≠ some 61 ∧ ([102,100,108,98,99,104] : List UInt8)[j]? ≠ some 64 := by decide
theorem nextEntryF {q : Nat} (hb : b.length ≤ 100000000) (hl : l.length < 16384) {x : TApiEntry} (hr : RightP x) {d : List UInt8} (h : b.drop q = lineS x ++ d) : ∃ q' : Nat,manifest_reader_next (rdr b (q : Int) 0 l fu mo) = some (rdr b (q' : Int) 0 (l ++ [t0 x]) (x.Kind == 1) (x.Kind != 6)) ∧ q' ≤ b.length ∧ b.drop q' = d := by
 have h1 : b.drop q = letterK x.Kind :: (numsS x ++ (sizeS x ++ (32 :: (Qt x.Path ++ (linkS x ++ (10 :: d)))))) := by rw [h]; unfold lineS; simp
 obtain ⟨a1,a2,a3⟩ := drop_at h1
 obtain ⟨q',g1,g2,g3⟩ := entryF (fu := fu) (mo := mo) hb hl hr h
 have hk := hr.kind
 obtain ⟨k,hk6,hkk⟩ : ∃ k : Nat,k < 6 ∧ x.Kind = (k : Int) + 1 := ⟨(x.Kind - 1).toNat,by omega,by omega⟩
 unfold manifest_reader_next
 rw [peek_ok (by omega),Option.bind_some,a2]
 rcases letters_loop (rdr b (q : Int) 0 l fu mo) (letterK x.Kind) 6 0 rfl (by omega) (fun j hj => by omega) with ⟨j,j1,j2,j3⟩ | ⟨_,hno⟩
 ·rw [hkk] at j2
  have := letter_of k hk6 j j1 j2
  subst this
  rw [j3,← hkk,g1]
  exact ⟨q',rfl,g2,g3⟩
 ·exact absurd (by rw [hkk]; exact letter_is k hk6) (hno k hk6)
theorem nextDataF {q : Nat} (hb : b.length ≤ 100000000) {l0 : List TApiEntry} {x : TApiEntry} (hl : l0.length ≤ 100000) (hD : x.Data.length ≤ 100000000) {d r : List UInt8} (hd : d ≠ []) (h32 : d.length ≤ 32) (h : b.drop q = dtS d ++ r) : ∃ q' : Nat,manifest_reader_next (rdr b (q : Int) 0 (l0 ++ [x]) true mo) = some (rdr b (q' : Int) 0 (l0 ++ [addData x d]) (decide (d.length = 32)) mo) ∧ q < b.length ∧ q' ≤ b.length ∧ b.drop q' = r := by
 obtain ⟨q',g1,g2,g3⟩ := dataF (fu := true) (mo := mo) hb hl hD hd h32 h
 rw [dtS_one hd h32] at h
 have h : b.drop q = 61 :: 32 :: (d.flatMap h2x ++ 10 :: r) := by rw [h]; simp
 obtain ⟨a1,a2,a3⟩ := drop_at h
 unfold manifest_reader_next
 rw [peek_ok (by omega),Option.bind_some,a2]
 rcases letters_loop (rdr b (q : Int) 0 (l0 ++ [x]) true mo) 61 6 0 rfl (by omega) (fun j hj => by omega) with ⟨j,j1,j2,j3⟩ | ⟨hh,_⟩
 ·exact absurd j2 (letter_no j j1).1
 ·rw [hh,bnd_inl,show (((61 : UInt8).toNat : Int) == 61) = true from rfl,cond_true,show (rdr b (q : Int) 0 (l0 ++ [x]) true mo).f_full = true from rfl,cond_true,g1]
  exact ⟨q',rfl,a1,g2,g3⟩
theorem nextAttrF {q : Nat} (hb : b.length ≤ 100000000) {l0 : List TApiEntry} {x : TApiEntry} (hl : l0.length ≤ 100000) (hA : x.Attrs.length ≤ 100000000) {a : TApiAttr} (hv : a.Value.length ≤ 100000000) {r : List UInt8} (h : b.drop q = attrS a ++ r) : ∃ q' : Nat,manifest_reader_next (rdr b (q : Int) 0 (l0 ++ [x]) fu true) = some (rdr b (q' : Int) 0 (l0 ++ [addAttr x a]) false true) ∧ q < b.length ∧ q' ≤ b.length ∧ b.drop q' = r := by
 obtain ⟨q',g1,g2,g3⟩ := attrF (fu := fu) (mo := true) hb hl hA hv h
 have h : b.drop q = 64 :: 32 :: (Qt a.Name ++ ((if a.Value = [] then [] else 32 :: a.Value.flatMap h2x) ++ 10 :: r)) := by rw [h]; unfold attrS; simp
 obtain ⟨a1,a2,a3⟩ := drop_at h
 unfold manifest_reader_next
 rw [peek_ok (by omega),Option.bind_some,a2]
 rcases letters_loop (rdr b (q : Int) 0 (l0 ++ [x]) fu true) 64 6 0 rfl (by omega) (fun j hj => by omega) with ⟨j,j1,j2,j3⟩ | ⟨hh,_⟩
 ·exact absurd j2 (letter_no j j1).2
 ·rw [hh,bnd_inl,show (((64 : UInt8).toNat : Int) == 61) = false from rfl,cond_false,show (((64 : UInt8).toNat : Int) == 64) = true from rfl,cond_true,show (rdr b (q : Int) 0 (l0 ++ [x]) fu true).f_more = true from rfl,cond_true,g1]
  exact ⟨q',rfl,a1,g2,g3⟩
end
noncomputable def ploop (b : List UInt8) (q : Nat) (l : List TApiEntry) (fu mo : Bool) := loopO (fun s => manifest_Parse_l1 b s.1 s.2.1 s.2.2.1 s.2.2.2.1 s.2.2.2.2.1 s.2.2.2.2.2) (b,(q : Int),(0 : Int),l,fu,mo)
section
variable {b : List UInt8}
theorem ploop_step {q q' : Nat} {l l' : List TApiEntry} {fu mo fu' mo' : Bool} (hq : q < b.length) (h : manifest_reader_next (rdr b (q : Int) 0 l fu mo) = some (rdr b (q' : Int) 0 l' fu' mo')) : ploop b q l fu mo = ploop b q' l' fu' mo' := by
 unfold ploop
 refine loop_next ?_
 show manifest_Parse_l1 b b (q : Int) 0 l fu mo = _
 unfold manifest_Parse_l1
 rw [show ((0 : Int) == 0) = true from rfl,cond_true,decide_eq_true (by omega),cond_true,show manifest_reader_next ({ f_text := ({ f_b := b,f_at := (q : Int),f_e := 0 } : TManifestText),f_l := l,f_full := fu,f_more := mo } : TManifestReader) = some (rdr b (q' : Int) 0 l' fu' mo') from h]
 rfl
theorem dtS_nil : dtS [] = [] := rfl
theorem addData_nil (x : TApiEntry) : addData x [] = x := by unfold addData; rw [List.append_nil]
theorem addData_two (x : TApiEntry) (u v : List UInt8) : addData (addData x u) v = addData x (u ++ v) := by unfold addData; dsimp only; rw [List.append_assoc]
theorem ploop_data (hb : b.length ≤ 100000000) {l0 : List TApiEntry} (hl : l0.length ≤ 100000) (r : List UInt8) (mo : Bool) : ∀ (k : Nat) (d : List UInt8),d.length ≤ k → ∀ (q : Nat) (x : TApiEntry) (fu : Bool),(fu = true ∨ d = []) → q ≤ b.length → x.Data.length + d.length ≤ 100000000 → b.drop q = dtS d ++ r →
  ∃ (q' : Nat) (fu' : Bool),ploop b q (l0 ++ [x]) fu mo = ploop b q' (l0 ++ [addData x d]) fu' mo ∧ q' ≤ b.length ∧ b.drop q' = r
 | k,d,hk,q,x,fu,hf,hq,hx,h => by
  by_cases hd : d = []
  ·subst hd
   exact ⟨q,fu,by rw [addData_nil],hq,by simpa [dtS_nil] using h⟩
  ·have hf : fu = true := hf.resolve_right hd
   subst hf
   have h0 : d.length ≠ 0 := fun e => hd (List.eq_nil_of_length_eq_zero e)
   by_cases h32 : d.length ≤ 32
   ·obtain ⟨q',g1,g2,g3,g4⟩ := nextDataF (mo := mo) (x := x) hb hl (by omega) hd h32 h
    exact ⟨q',_,ploop_step g2 g1,g3,g4⟩
   ·have hu : (d.take 32).length = 32 := by rw [List.length_take]; omega
    have hs : dtS d = dtS (d.take 32) ++ dtS (d.drop 32) := by
     conv => lhs; rw [← List.take_append_drop 32 d]
     exact dtS_app 1 _ _ (by omega)
    rw [hs,List.append_assoc] at h
    obtain ⟨q1,g1,g2,g3,g4⟩ := nextDataF (mo := mo) (x := x) hb hl (by omega) (fun e => by rw [e] at hu; cases hu) (by omega) h
    match k,hk with
    | 0,hk => omega
    | k + 1,hk =>
     have hv : (d.drop 32).length = d.length - 32 := List.length_drop
     have hxa : (addData x (d.take 32)).Data.length = x.Data.length + 32 := by unfold addData; dsimp only; rw [List.length_append,hu]
     obtain ⟨q',fu',i1,i2,i3⟩ := ploop_data hb hl r mo k (d.drop 32) (by omega) q1 (addData x (d.take 32)) (decide ((d.take 32).length = 32)) (.inl (decide_eq_true hu)) g3 (by omega) g4
     exact ⟨q',fu',by rw [ploop_step g2 g1,i1,addData_two,List.take_append_drop],i2,i3⟩
def addAttrs (x : TApiEntry) (as : List TApiAttr) : TApiEntry := { x with Attrs := x.Attrs ++ as }
theorem ploop_attrs (hb : b.length ≤ 100000000) {l0 : List TApiEntry} (hl : l0.length ≤ 100000) (r : List UInt8) (mo : Bool) : ∀ (as : List TApiAttr) (q : Nat) (x : TApiEntry) (fu : Bool),(mo = true ∨ as = []) → q ≤ b.length → x.Attrs.length + as.length ≤ 100000000 → (∀ a ∈ as,a.Value.length ≤ 100000000) → b.drop q = as.flatMap attrS ++ r →
  ∃ (q' : Nat) (fu' : Bool),ploop b q (l0 ++ [x]) fu mo = ploop b q' (l0 ++ [addAttrs x as]) fu' mo ∧ q' ≤ b.length ∧ b.drop q' = r
 | [],q,x,fu,hm,hq,hx,hv,h => ⟨q,fu,by unfold addAttrs; rw [List.append_nil],hq,by simpa using h⟩
 | a :: as,q,x,fu,hm,hq,hx,hv,h => by
  have hm : mo = true := hm.resolve_right (by simp)
  subst hm
  rw [List.length_cons] at hx
  rw [List.flatMap_cons,List.append_assoc] at h
  obtain ⟨q1,g1,g2,g3,g4⟩ := nextAttrF (fu := fu) hb hl (x := x) (by omega) (hv a (by simp)) h
  have hxa : (addAttr x a).Attrs.length = x.Attrs.length + 1 := by unfold addAttr; dsimp only; rw [List.length_append]; rfl
  obtain ⟨q',fu',i1,i2,i3⟩ := ploop_attrs hb hl r true as q1 (addAttr x a) false (.inl rfl) g3 (by omega) (fun y hy => hv y (by simp [hy])) g4
  refine ⟨q',fu',by rw [ploop_step g2 g1,i1]; unfold addAttrs addAttr; dsimp only; rw [List.append_assoc]; rfl,i2,i3⟩
noncomputable def tl (x : TApiEntry) : TApiEntry := { t0 x with Data := if x.Kind = 1 then x.Data else [],Attrs := if x.Kind = 6 then [] else x.Attrs }
theorem ploop_entry (hb : b.length ≤ 100000000) {l : List TApiEntry} (hl : l.length < 16384) {x : TApiEntry} (hr : RightP x) (hD : x.Data.length ≤ 100000000) (hA : x.Attrs.length ≤ 100000000) (hv : ∀ a ∈ x.Attrs,a.Value.length ≤ 100000000) {q : Nat} {fu mo : Bool} {r : List UInt8} (h : b.drop q = lineS x ++ restS x ++ r) :
  ∃ (q' : Nat) (fu' mo' : Bool),ploop b q l fu mo = ploop b q' (l ++ [tl x]) fu' mo' ∧ q' ≤ b.length ∧ b.drop q' = r := by
 have hq : q < b.length := by
  rw [show lineS x = letterK x.Kind :: (numsS x ++ (sizeS x ++ (32 :: (Qt x.Path ++ (linkS x ++ [10]))))) from rfl,List.append_assoc,List.cons_append] at h
  exact (drop_at h).1
 rw [List.append_assoc] at h
 obtain ⟨q1,g1,g2,g3⟩ := nextEntryF (fu := fu) (mo := mo) hb hl hr h
 rw [restS_eq,List.append_assoc] at g3
 have e1 := ploop_step hq g1
 have hld : (if x.Kind = 1 then x.Data else []).length ≤ 100000000 := by
  split
  ·exact hD
  ·simp
 have g3 : b.drop q1 = dtS (if x.Kind = 1 then x.Data else []) ++ ((if x.Kind = 6 then [] else x.Attrs).flatMap attrS ++ r) := by
  rw [g3]
  by_cases k1 : x.Kind = 1
  ·rw [if_pos k1,if_pos k1,if_neg (by omega),if_neg (by omega)]
  ·rw [if_neg k1,if_neg k1,dtS_nil]
   by_cases k6 : x.Kind = 6
   ·rw [if_pos k6,if_pos k6]; rfl
   ·rw [if_neg k6,if_neg k6]
 obtain ⟨q2,f2,h2,c2,d2⟩ := ploop_data hb (l0 := l) (by omega) _ (x.Kind != 6) _ (if x.Kind = 1 then x.Data else []) (Nat.le_refl _) q1 (t0 x) (x.Kind == 1) (by by_cases k1 : x.Kind = 1 <;> simp [k1]) g2 (by show 0 + _ ≤ _; omega) g3
 have hva : ∀ a ∈ (if x.Kind = 6 then [] else x.Attrs),a.Value.length ≤ 100000000 := by
  split
  ·simp
  ·exact hv
 have hla : (if x.Kind = 6 then [] else x.Attrs).length ≤ 100000000 := by
  split
  ·simp
  ·exact hA
 obtain ⟨q3,f3,h3,c3,d3⟩ := ploop_attrs hb (l0 := l) (by omega) r (x.Kind != 6) (if x.Kind = 6 then [] else x.Attrs) q2 (addData (t0 x) (if x.Kind = 1 then x.Data else [])) f2 (by by_cases k6 : x.Kind = 6 <;> simp [k6]) c2 (by show 0 + _ ≤ _; omega) hva d2
 exact ⟨q3,f3,_,by rw [e1,h2,h3]; rfl,c3,d3⟩
end
end Go.Proofs.YtebbaokcgnjfiaaDoor.F
