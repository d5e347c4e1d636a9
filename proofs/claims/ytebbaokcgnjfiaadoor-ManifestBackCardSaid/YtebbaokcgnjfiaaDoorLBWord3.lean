import Derived.Test.YtebbaokcgnjfiaaDoorLBWord
set_option linter.unusedVariables false
set_option linter.unusedSimpArgs false
namespace Go.Proofs.YtebbaokcgnjfiaaDoor.F
open Go Go.RowKit Go.Proofs.YtebbaokcgnjfiaaDoor.K
def rdr (b : List UInt8) (p : Int) (e : Int) (l : List TApiEntry) (fu mo : Bool) : TManifestReader := { f_text := { f_b := b,f_at := p,f_e := e },f_l := l,f_full := fu,f_more := mo }
section
variable {b : List UInt8} {l : List TApiEntry} {fu mo : Bool}
theorem peek_ok {p : Nat} (hp : p ≤ b.length) : manifest_text_peek (rdr b (p : Int) 0 l fu mo) = some (byteS b p) := by
 unfold manifest_text_peek rdr
 dsimp only
 rw [show ((0 : Int) != 0) = false from rfl,cond_false]
 by_cases h : p = b.length
 ·rw [show (((p : Int)) == (b.length : Int)) = true from by simp [h],cond_true,byteS_ge (by omega)]
 ·rw [show (((p : Int)) == (b.length : Int)) = false from by simpa using by omega,cond_false,idx_ok (List.getElem?_eq_getElem (show p < b.length by omega)),Option.bind_some,byteS_lt (by omega)]
theorem peek_e {p e : Int} (he : e ≠ 0) : manifest_text_peek (rdr b p e l fu mo) = some 0 := by
 unfold manifest_text_peek rdr
 dsimp only
 rw [show (e != 0) = true from by simpa using he]
 rfl
theorem bits2 : ∀ x : Nat,x < 16 → ∀ y : Nat,y < 16 → UInt8.ofInt (Go.bits .or .i64 (shlI (x : Int) 4) (y : Int)) = UInt8.ofNat (16 * x + y) := by decide +kernel
theorem byteS_vl {p : Nat} (h : 0 ≤ vl (byteS b p)) : p < b.length := by
 refine Decidable.byContradiction fun hc => ?_
 rw [byteS_ge (by omega),vl0] at h
 omega
theorem pair_ok {p : Nat} (hp : p ≤ b.length) (hb : b.length ≤ 100000000) : manifest_reader_pair (rdr b (p : Int) 0 l fu mo) = some (if vl (byteS b p) < 0 then (0,rdr b (p : Int) 6 l fu mo) else if vl (byteS b (p + 1)) < 0 then (0,rdr b ((p + 1 : Nat) : Int) 6 l fu mo) else (by2 (byteS b p) (byteS b (p + 1)),rdr b ((p + 2 : Nat) : Int) 0 l fu mo)) := by
 have r0 : ∀ (q : Nat) (x : List Int) (t : Nat),q ≤ b.length → t < 2 → x.length = 2 → manifest_reader_pair_l1 (rdr b (p : Int) 0 l fu mo) (q : Int) x t = if vl (byteS b q) < 0 then some (.inr (.inr (0,rdr b (q : Int) 6 l fu mo))) else some (.inl (((q + 1 : Nat) : Int),x.set t (vl (byteS b q)),t + 1)) := by
  intro q x t hq ht hx
  unfold manifest_reader_pair_l1
  rw [decide_eq_true (show (t : Int) < 2 by omega),cond_true]
  have e1 : manifest_text_peek ({ f_text := ({ f_b := (rdr b (p : Int) 0 l fu mo).f_text.f_b,f_at := (q : Int),f_e := (rdr b (p : Int) 0 l fu mo).f_text.f_e } : TManifestText),f_l := (rdr b (p : Int) 0 l fu mo).f_l,f_full := (rdr b (p : Int) 0 l fu mo).f_full,f_more := (rdr b (p : Int) 0 l fu mo).f_more } : TManifestReader) = some (byteS b q) := peek_ok hq
  rw [e1,Option.bind_some,idx_ok (List.getElem?_eq_getElem (show t < x.length by omega)),Option.bind_some,chk_t (b := true) rfl,Option.bind_some,Int.toNat_natCast,digit_eq,idx_ok (i := t) (x := vl (byteS b q)) (by rw [List.getElem?_set_self (by omega)]),Option.bind_some,Option.bind_some]
  by_cases hv : vl (byteS b q) < 0
  ·rw [decide_eq_true hv,if_pos hv]; rfl
  ·rw [decide_eq_false hv,if_neg hv,wI (by omega)]; rfl
 unfold manifest_reader_pair
 have a0 := vl_ge (byteS b p)
 have a1 := vl_ge (byteS b (p + 1))
 by_cases h : vl (byteS b p) < 0
 ·rw [if_pos h]
  have := r0 p (List.replicate 2 0) 0 hp (by omega) rfl
  rw [if_pos h] at this
  show bnd (loopO _ ((p : Int),List.replicate 2 0,0)) _ = _
  rw [loop_end (s := ((p : Int),List.replicate 2 0,0)) this]
  rfl
 ·rw [if_neg h]
  have hlt := byteS_vl (b := b) (p := p) (by omega)
  have := r0 p (List.replicate 2 0) 0 hp (by omega) rfl
  rw [if_neg h] at this
  show bnd (loopO _ ((p : Int),List.replicate 2 0,0)) _ = _
  rw [loop_next (s := ((p : Int),List.replicate 2 0,0)) (s' := (((p + 1 : Nat) : Int),(List.replicate 2 0).set 0 (vl (byteS b p)),1)) this]
  have r1 := r0 (p + 1) ((List.replicate 2 0).set 0 (vl (byteS b p))) 1 (by omega) (by omega) (by simp)
  by_cases h2 : vl (byteS b (p + 1)) < 0
  ·rw [if_pos h2] at r1 ⊢
   rw [loop_end (s := (((p + 1 : Nat) : Int),(List.replicate 2 0).set 0 (vl (byteS b p)),1)) r1]
   rfl
  ·rw [if_neg h2] at r1 ⊢
   rw [loop_next (s := (((p + 1 : Nat) : Int),(List.replicate 2 0).set 0 (vl (byteS b p)),1)) (s' := (((p + 2 : Nat) : Int),[vl (byteS b p),vl (byteS b (p + 1))],2)) r1]
   rw [loop_end (r := .inl ([vl (byteS b p),vl (byteS b (p + 1))],((p + 2 : Nat) : Int)))]
   ·rw [bnd_inl]
    dsimp only
    rw [show (0 : Int) = ((0 : Nat) : Int) from rfl,idx_ok (x := vl (byteS b p)) rfl,Option.bind_some,show (1 : Int) = ((1 : Nat) : Int) from rfl,idx_ok (x := vl (byteS b (p + 1))) rfl,Option.bind_some]
    have := bits2 (vl (byteS b p)).toNat (by omega) (vl (byteS b (p + 1))).toNat (by omega)
    rw [show (((vl (byteS b p)).toNat : Nat) : Int) = vl (byteS b p) by omega,show (((vl (byteS b (p + 1))).toNat : Nat) : Int) = vl (byteS b (p + 1)) by omega] at this
    rw [this]
    rfl
   ·show manifest_reader_pair_l1 _ ((p + 2 : Nat) : Int) [vl (byteS b p),vl (byteS b (p + 1))] 2 = _
    unfold manifest_reader_pair_l1
    rfl
end
theorem wd_pct (x y : UInt8) (d : List UInt8) (p : Nat) (acc : List UInt8) (h1 : ¬ vl x < 0) (h2 : ¬ vl y < 0) (h3 : manifest_plain (by2 x y) = false) : wd (37 :: x :: y :: d) p acc = wd d (p + 3) (acc ++ [by2 x y]) := by
 conv => lhs; unfold wd
 rw [plain37,if_neg (by decide),if_neg (by simp)]
 dsimp only
 rw [if_neg h1,if_neg h2,h3,if_neg (by decide)]
def ans (b : List UInt8) (l : List TApiEntry) (fu mo : Bool) (r : List UInt8 × Nat × Int) : List UInt8 × TManifestReader := (r.1,rdr b (r.2.1 : Int) r.2.2 l fu mo)
theorem word_loop (b : List UInt8) (l : List TApiEntry) (fu mo : Bool) (hb : b.length ≤ 100000000) (from_ : Nat) (r0 : TManifestReader) (hr0 : r0.f_text.f_at = (from_ : Int)) (hr1 : r0.f_l = l) : ∀ n p (acc : List UInt8),b.length - p ≤ n → p ≤ b.length → acc.length ≤ p → from_ ≤ p → (p = from_ → acc = [] ∧ lone b p = false) →
  (bnd (loopO (fun s => manifest_reader_word_l1 r0 s.1 s.2.1 s.2.2.1 s.2.2.2.1 s.2.2.2.2.1 s.2.2.2.2.2) (b,(p : Int),0,fu,mo,acc)) fun s => some (([] : List UInt8),({ f_text := ({ f_b := s.1,f_at := s.2.1,f_e := s.2.2.1 } : TManifestText),f_l := r0.f_l,f_full := s.2.2.2.1,f_more := s.2.2.2.2 } : TManifestReader))) = some (ans b l fu mo (if (wd (b.drop p) p acc).2.2 = 0 ∧ (wd (b.drop p) p acc).2.1 = from_ then ([],from_,6) else wd (b.drop p) p acc)) := by
 subst hr1
 have stop : ∀ (p : Nat) (acc : List UInt8),p ≤ b.length → from_ ≤ p → (p = from_ → acc = []) → manifest_plain (byteS b p) = false → byteS b p ≠ 37 → wd (b.drop p) p acc = (acc,p,0) →
  (bnd (loopO (fun s => manifest_reader_word_l1 r0 s.1 s.2.1 s.2.2.1 s.2.2.2.1 s.2.2.2.2.1 s.2.2.2.2.2) (b,(p : Int),0,fu,mo,acc)) fun s => some (([] : List UInt8),({ f_text := ({ f_b := s.1,f_at := s.2.1,f_e := s.2.2.1 } : TManifestText),f_l := r0.f_l,f_full := s.2.2.2.1,f_more := s.2.2.2.2 } : TManifestReader))) = some (ans b r0.f_l fu mo (if (wd (b.drop p) p acc).2.2 = 0 ∧ (wd (b.drop p) p acc).2.1 = from_ then ([],from_,6) else wd (b.drop p) p acc)) := by
  intro p acc hp hf hacc h1 h2 hw
  rw [hw]
  dsimp only
  have e : manifest_reader_word_l1 r0 b (p : Int) 0 fu mo acc = some (.inr (.inr (if p = from_ then ([],rdr b (from_ : Int) 6 r0.f_l fu mo) else (acc,rdr b (p : Int) 0 r0.f_l fu mo)))) := by
   unfold manifest_reader_word_l1
   have e1 : manifest_text_peek ({ f_text := ({ f_b := b,f_at := (p : Int),f_e := 0 } : TManifestText),f_l := r0.f_l,f_full := fu,f_more := mo } : TManifestReader) = some (byteS b p) := peek_ok hp
   rw [show ((0 : Int) == 0) = true from rfl,cond_true,e1,Option.bind_some,h1,cond_false,toNat37,show (byteS b p == 37) = false from by simpa using h2,cond_false,hr0]
   by_cases hpf : p = from_
   ·rw [if_pos hpf,hacc hpf,hpf,show (((from_ : Int)) == (from_ : Int)) = true from by simp,cond_true]
    rfl
   ·rw [if_neg hpf,show (((p : Int)) == (from_ : Int)) = false from by simpa using by omega,cond_false]
    rfl
  rw [loop_end (s := (b,(p : Int),0,fu,mo,acc)) e,bnd_inr]
  by_cases hpf : p = from_
  ·rw [if_pos hpf,if_pos ⟨rfl,hpf⟩]; rfl
  ·rw [if_neg hpf,if_neg (fun h => hpf h.2)]; rfl
 have bad : ∀ (q : Nat) (acc : List UInt8),(bnd (loopO (fun s => manifest_reader_word_l1 r0 s.1 s.2.1 s.2.2.1 s.2.2.2.1 s.2.2.2.2.1 s.2.2.2.2.2) (b,(q : Int),6,fu,mo,acc)) fun s => some (([] : List UInt8),({ f_text := ({ f_b := s.1,f_at := s.2.1,f_e := s.2.2.1 } : TManifestText),f_l := r0.f_l,f_full := s.2.2.2.1,f_more := s.2.2.2.2 } : TManifestReader))) = some (ans b r0.f_l fu mo ([],q,6)) := by
  intro q acc
  rw [loop_end (s := (b,(q : Int),6,fu,mo,acc)) (r := .inl (b,(q : Int),6,fu,mo)) rfl]
  rfl
 intro n
 induction n with
 | zero =>
  intro p acc h1 h2 h3 h4 h5
  have hp : b.length ≤ p := by omega
  refine stop p acc h2 h4 (fun h => (h5 h).1) (by rw [byteS_ge hp]; decide) (by rw [byteS_ge hp]; decide) (by rw [List.drop_eq_nil_of_le hp]; rfl)
 | succ n ih =>
  intro p acc h1 h2 h3 h4 h5
  by_cases hp : p < b.length
  ·obtain ⟨c,hc⟩ : ∃ c,c = byteS b p := ⟨_,rfl⟩
   have hd : b.drop p = c :: b.drop (p + 1) := by rw [hc,byteS_lt hp]; exact List.drop_eq_getElem_cons hp
   by_cases hpl : manifest_plain c = true
   ·have e : manifest_reader_word_l1 r0 b (p : Int) 0 fu mo acc = some (.inl (b,((p + 1 : Nat) : Int),0,fu,mo,acc ++ [c])) := by
     unfold manifest_reader_word_l1
     have e1 : manifest_text_peek ({ f_text := ({ f_b := b,f_at := (p : Int),f_e := 0 } : TManifestText),f_l := r0.f_l,f_full := fu,f_more := mo } : TManifestReader) = some (byteS b p) := peek_ok h2
     rw [show ((0 : Int) == 0) = true from rfl,cond_true,e1,Option.bind_some,← hc,hpl,cond_true,app_ok (by simp; omega),Option.bind_some,wI (by omega)]
     rfl
    rw [loop_next (s := (b,(p : Int),0,fu,mo,acc)) (s' := (b,((p + 1 : Nat) : Int),0,fu,mo,acc ++ [c])) e,ih (p + 1) (acc ++ [c]) (by omega) (by omega) (by simp; omega) (by omega) (fun h => by omega),hd]
    conv => rhs; unfold wd
    rw [if_pos hpl]
   ·have hpl : manifest_plain c = false := by simpa using hpl
    by_cases h37 : c = 37
    ·
     have e : manifest_reader_word_l1 r0 b (p : Int) 0 fu mo acc = Option.bind (manifest_reader_pair (rdr b ((p + 1 : Nat) : Int) 0 r0.f_l fu mo)) fun pair =>
       cond (pair.2.f_text.f_e == 0)
       (cond (manifest_plain pair.1)
       (Option.bind (manifest_text_fail ({ f_text := pair.2.f_text,f_l := r0.f_l,f_full := pair.2.f_full,f_more := pair.2.f_more } : TManifestReader) 6 ((p + 2 : Nat) : Int)) fun fail =>
       Option.bind (app acc [pair.1]) fun b3 =>
       some (.inl (pair.2.f_text.f_b,fail.f_text.f_at,fail.f_text.f_e,fail.f_full,fail.f_more,b3)))
       (Option.bind (app acc [pair.1]) fun b4 =>
       some (.inl (pair.2.f_text.f_b,pair.2.f_text.f_at,pair.2.f_text.f_e,pair.2.f_full,pair.2.f_more,b4))))
       (Option.bind (app acc [pair.1]) fun b5 =>
       some (.inl (pair.2.f_text.f_b,pair.2.f_text.f_at,pair.2.f_text.f_e,pair.2.f_full,pair.2.f_more,b5))) := by
      unfold manifest_reader_word_l1
      have e1 : manifest_text_peek ({ f_text := ({ f_b := b,f_at := (p : Int),f_e := 0 } : TManifestText),f_l := r0.f_l,f_full := fu,f_more := mo } : TManifestReader) = some (byteS b p) := peek_ok h2
      have e2 : manifest_text_peek ({ f_text := ({ f_b := b,f_at := ((p + 1 : Nat) : Int),f_e := 0 } : TManifestText),f_l := r0.f_l,f_full := fu,f_more := mo } : TManifestReader) = some (byteS b (p + 1)) := peek_ok (by omega)
      rw [show ((0 : Int) == 0) = true from rfl,cond_true,e1,Option.bind_some,← hc,hpl,cond_false,toNat37,show (c == 37) = true from by simp [h37],cond_true,hr0,wI (x := (p : Int) + 1) (by omega),wI (x := (from_ : Int) + 1) (by omega),show ((p : Int) + 1) = ((p + 1 : Nat) : Int) by omega,wI (x := ((p + 1 : Nat) : Int) + 1) (by omega),show (((p + 1 : Nat) : Int) + 1) = ((p + 2 : Nat) : Int) by omega]
      by_cases hpf : p = from_
      ·have hl := (h5 hpf).2
       unfold lone at hl
       rw [← hc,show (c == 37) = true from by simp [h37],Bool.true_and] at hl
       simp only [Bool.or_eq_false_iff] at hl
       obtain ⟨l1,l2,l3⟩ := hl
       have l1 : p + 1 ≠ b.length := by simpa using l1
       rw [show ((((p + 1 : Nat) : Int)) == (from_ : Int) + 1) = true from by simp; omega,cond_true,show ((((p + 1 : Nat) : Int)) == (b.length : Int)) = false from by simpa using by omega,cond_false,e2,Option.bind_some,toNat32,l2,cond_false,Option.bind_some,toNat10,l3,cond_false]
       rfl
      ·rw [show ((((p + 1 : Nat) : Int)) == (from_ : Int) + 1) = false from by simpa using by omega,cond_false]
       rfl
     rw [pair_ok (by omega) hb,Option.bind_some] at e
     rcases hdd : b.drop (p + 1) with _ | ⟨x,_ | ⟨y,d'⟩⟩
     ·have hl : b.length ≤ p + 1 := by have := congrArg List.length hdd; rw [List.length_drop] at this; simp at this; omega
      rw [byteS_ge hl,vl0,if_pos (by omega)] at e
      have e' : manifest_reader_word_l1 r0 b (p : Int) 0 fu mo acc = some (.inl (b,((p + 1 : Nat) : Int),6,fu,mo,acc ++ [0])) := by rw [e]; unfold rdr; dsimp only; rw [show ((6 : Int) == 0) = false from rfl,cond_false,app_ok (by simp; omega)]; rfl
      have hw : wd (b.drop p) p acc = ([],p + 1,6) := by rw [hd,hdd]; unfold wd; rw [hpl,if_neg (by decide),if_neg (by simp [h37])]
      rw [hw,loop_next (s := (b,(p : Int),0,fu,mo,acc)) (s' := (b,((p + 1 : Nat) : Int),6,fu,mo,acc ++ [0])) e',bad]
      rfl
     ·have hl : b.length = p + 2 := by have := congrArg List.length hdd; rw [List.length_drop] at this; simp at this; omega
      have ex : byteS b (p + 1) = x := by
       rw [byteS_lt (by omega)]
       have := List.drop_eq_getElem_cons (show p + 1 < b.length by omega)
       rw [hdd] at this
       exact (List.cons.inj this).1.symm
      rw [ex,byteS_ge (p := p + 1 + 1) (by omega),vl0] at e
      by_cases hv : vl x < 0
      ·rw [if_pos hv] at e
       have e' : manifest_reader_word_l1 r0 b (p : Int) 0 fu mo acc = some (.inl (b,((p + 1 : Nat) : Int),6,fu,mo,acc ++ [0])) := by rw [e]; unfold rdr; dsimp only; rw [show ((6 : Int) == 0) = false from rfl,cond_false,app_ok (by simp; omega)]; rfl
       have hw : wd (b.drop p) p acc = ([],p + 1,6) := by rw [hd,hdd]; unfold wd; rw [hpl,if_neg (by decide),if_neg (by simp [h37])]; dsimp only; rw [if_pos hv]
       rw [hw,loop_next (s := (b,(p : Int),0,fu,mo,acc)) (s' := (b,((p + 1 : Nat) : Int),6,fu,mo,acc ++ [0])) e',bad]
       rfl
      ·rw [if_neg hv,if_pos (by omega)] at e
       have e' : manifest_reader_word_l1 r0 b (p : Int) 0 fu mo acc = some (.inl (b,((p + 2 : Nat) : Int),6,fu,mo,acc ++ [0])) := by rw [e]; unfold rdr; dsimp only; rw [show ((6 : Int) == 0) = false from rfl,cond_false,app_ok (by simp; omega)]; rfl
       have hw : wd (b.drop p) p acc = ([],p + 2,6) := by rw [hd,hdd]; unfold wd; rw [hpl,if_neg (by decide),if_neg (by simp [h37])]; dsimp only; rw [if_neg hv]
       rw [hw,loop_next (s := (b,(p : Int),0,fu,mo,acc)) (s' := (b,((p + 2 : Nat) : Int),6,fu,mo,acc ++ [0])) e',bad]
       rfl
     ·have hl : p + 3 ≤ b.length := by have := congrArg List.length hdd; rw [List.length_drop] at this; simp at this; omega
      have e1 := List.drop_eq_getElem_cons (show p + 1 < b.length by omega)
      have e2 := List.drop_eq_getElem_cons (show p + 1 + 1 < b.length by omega)
      rw [hdd] at e1
      have ex : byteS b (p + 1) = x := by rw [byteS_lt (by omega)]; exact (List.cons.inj e1).1.symm
      rw [← (List.cons.inj e1).2] at e2
      have ey : byteS b (p + 1 + 1) = y := by rw [byteS_lt (by omega)]; exact (List.cons.inj e2).1.symm
      have ed : d' = b.drop (p + 3) := (List.cons.inj e2).2
      rw [ex,ey] at e
      by_cases hv : vl x < 0
      ·rw [if_pos hv] at e
       have e' : manifest_reader_word_l1 r0 b (p : Int) 0 fu mo acc = some (.inl (b,((p + 1 : Nat) : Int),6,fu,mo,acc ++ [0])) := by rw [e]; unfold rdr; dsimp only; rw [show ((6 : Int) == 0) = false from rfl,cond_false,app_ok (by simp; omega)]; rfl
       have hww : wd (b.drop p) p acc = ([],p + 1,6) := by rw [hd,hdd]; unfold wd; rw [hpl,if_neg (by decide),if_neg (by simp [h37])]; dsimp only; rw [if_pos hv]
       rw [hww,loop_next (s := (b,(p : Int),0,fu,mo,acc)) (s' := (b,((p + 1 : Nat) : Int),6,fu,mo,acc ++ [0])) e',bad]
       rfl
      ·rw [if_neg hv] at e
       by_cases hw : vl y < 0
       ·rw [if_pos hw] at e
        have e' : manifest_reader_word_l1 r0 b (p : Int) 0 fu mo acc = some (.inl (b,((p + 2 : Nat) : Int),6,fu,mo,acc ++ [0])) := by rw [e]; unfold rdr; dsimp only; rw [show ((6 : Int) == 0) = false from rfl,cond_false,app_ok (by simp; omega)]; rfl
        have hww : wd (b.drop p) p acc = ([],p + 2,6) := by rw [hd,hdd]; unfold wd; rw [hpl,if_neg (by decide),if_neg (by simp [h37])]; dsimp only; rw [if_neg hv,if_pos hw]
        rw [hww,loop_next (s := (b,(p : Int),0,fu,mo,acc)) (s' := (b,((p + 2 : Nat) : Int),6,fu,mo,acc ++ [0])) e',bad]
        rfl
       ·rw [if_neg hw] at e
        by_cases hq : manifest_plain (by2 x y) = true
        ·have e' : manifest_reader_word_l1 r0 b (p : Int) 0 fu mo acc = some (.inl (b,((p + 2 : Nat) : Int),6,fu,mo,acc ++ [by2 x y])) := by rw [e]; dsimp only; rw [show ((rdr b ((p + 1 + 2 : Nat) : Int) 0 r0.f_l fu mo).f_text.f_e == 0) = true from rfl,cond_true,hq,cond_true,show manifest_text_fail ({ f_text := (rdr b ((p + 1 + 2 : Nat) : Int) 0 r0.f_l fu mo).f_text,f_l := r0.f_l,f_full := (rdr b ((p + 1 + 2 : Nat) : Int) 0 r0.f_l fu mo).f_full,f_more := (rdr b ((p + 1 + 2 : Nat) : Int) 0 r0.f_l fu mo).f_more } : TManifestReader) 6 ((p + 2 : Nat) : Int) = some (rdr b ((p + 2 : Nat) : Int) 6 r0.f_l fu mo) from rfl,Option.bind_some,app_ok (by simp; omega)]; rfl
         have hww : wd (b.drop p) p acc = ([],p + 2,6) := by rw [hd,hdd]; unfold wd; rw [hpl,if_neg (by decide),if_neg (by simp [h37])]; dsimp only; rw [if_neg hv,if_neg hw,if_pos hq]
         rw [hww,loop_next (s := (b,(p : Int),0,fu,mo,acc)) (s' := (b,((p + 2 : Nat) : Int),6,fu,mo,acc ++ [by2 x y])) e',bad]
         rfl
        ·have hq : manifest_plain (by2 x y) = false := by simpa using hq
         have e' : manifest_reader_word_l1 r0 b (p : Int) 0 fu mo acc = some (.inl (b,((p + 3 : Nat) : Int),0,fu,mo,acc ++ [by2 x y])) := by rw [e]; dsimp only; rw [show ((rdr b ((p + 1 + 2 : Nat) : Int) 0 r0.f_l fu mo).f_text.f_e == 0) = true from rfl,cond_true,hq,cond_false,app_ok (by simp; omega)]; rfl
         have hww : wd (b.drop p) p acc = wd d' (p + 3) (acc ++ [by2 x y]) := by rw [hd,hdd,h37,wd_pct _ _ _ _ _ hv hw hq]
         rw [hww,ed,loop_next (s := (b,(p : Int),0,fu,mo,acc)) (s' := (b,((p + 3 : Nat) : Int),0,fu,mo,acc ++ [by2 x y])) e',ih (p + 3) _ (by omega) (by omega) (by simp; omega) (by omega) (fun h => by omega)]
    ·refine stop p acc h2 h4 (fun h => (h5 h).1) (by rw [← hc]; exact hpl) (by rw [← hc]; exact h37) ?_
     rw [hd]
     unfold wd
     rw [hpl,if_neg (by decide),if_pos h37]
  ·have hp : b.length ≤ p := by omega
   refine stop p acc h2 h4 (fun h => (h5 h).1) (by rw [byteS_ge hp]; decide) (by rw [byteS_ge hp]; decide) (by rw [List.drop_eq_nil_of_le hp]; rfl)
theorem word_ok (b : List UInt8) (l : List TApiEntry) (fu mo : Bool) (p : Nat) (hb : b.length ≤ 100000000) (hp : p ≤ b.length) : manifest_reader_word (rdr b (p : Int) 0 l fu mo) = some (ans b l fu mo (wordS b p)) := by
 unfold wordS
 cases hl : lone b p
 ·rw [if_neg (by decide)]
  exact word_loop b l fu mo hb p (rdr b (p : Int) 0 l fu mo) rfl rfl b.length p [] (by omega) hp (by simp) (Nat.le_refl _) (fun _ => ⟨rfl,hl⟩)
 ·rw [if_pos rfl]
  unfold lone at hl
  simp only [Bool.and_eq_true,Bool.or_eq_true,beq_iff_eq,decide_eq_true_eq] at hl
  obtain ⟨h37,hl⟩ := hl
  have hlt : p < b.length := by
   refine Decidable.byContradiction fun hc => ?_
   rw [byteS_ge (by omega)] at h37
   revert h37; decide
  have e : manifest_reader_word_l1 (rdr b (p : Int) 0 l fu mo) b (p : Int) 0 fu mo [] = some (.inr (.inr ([],rdr b ((p + 1 : Nat) : Int) 0 l fu mo))) := by
   unfold manifest_reader_word_l1
   have e1 : manifest_text_peek ({ f_text := ({ f_b := b,f_at := (p : Int),f_e := 0 } : TManifestText),f_l := (rdr b (p : Int) 0 l fu mo).f_l,f_full := fu,f_more := mo } : TManifestReader) = some (byteS b p) := peek_ok hp
   have e2 : manifest_text_peek ({ f_text := ({ f_b := b,f_at := ((p + 1 : Nat) : Int),f_e := 0 } : TManifestText),f_l := (rdr b (p : Int) 0 l fu mo).f_l,f_full := fu,f_more := mo } : TManifestReader) = some (byteS b (p + 1)) := peek_ok (by omega)
   rw [show ((0 : Int) == 0) = true from rfl,cond_true,e1,Option.bind_some,h37,plain37,cond_false,show ((((37 : UInt8)).toNat : Int) == 37) = true from rfl,cond_true,show (rdr b (p : Int) 0 l fu mo).f_text.f_at = (p : Int) from rfl,wI (x := (p : Int) + 1) (by omega),show ((p : Int) + 1) = ((p + 1 : Nat) : Int) by omega,show ((((p + 1 : Nat) : Int)) == ((p + 1 : Nat) : Int)) = true from by simp,cond_true]
   by_cases g1 : p + 1 = b.length
   ·rw [show ((((p + 1 : Nat) : Int)) == (b.length : Int)) = true from by simp; omega,cond_true]; rfl
   ·rw [show ((((p + 1 : Nat) : Int)) == (b.length : Int)) = false from by simpa using by omega,cond_false,e2,Option.bind_some,toNat32,Option.bind_some,toNat10]
    rcases hl with hl | hl | hl
    ·exact absurd hl g1
    ·rw [hl]; rfl
    ·rw [hl]; rfl
  unfold manifest_reader_word
  show bnd (loopO _ (b,(p : Int),0,fu,mo,[])) _ = _
  rw [loop_end (s := (b,(p : Int),(0 : Int),fu,mo,([] : List UInt8))) e]
  rfl
theorem word_e (r : TManifestReader) (h : r.f_text.f_e ≠ 0) : manifest_reader_word r = some ([],r) := by
 obtain ⟨⟨b,p,e⟩,l,fu,mo⟩ := r
 dsimp only at h
 have he : manifest_reader_word_l1 ⟨⟨b,p,e⟩,l,fu,mo⟩ b p e fu mo [] = some (.inr (.inl (b,p,e,fu,mo))) := by
  unfold manifest_reader_word_l1
  rw [show (e == 0) = false from by simpa using h]
  rfl
 unfold manifest_reader_word
 show bnd (loopO _ (b,p,e,fu,mo,[])) _ = _
 rw [loop_end (s := (b,p,e,fu,mo,([] : List UInt8))) he]
 rfl
theorem by2_h2x (c : UInt8) : by2 (dc (c.toNat / 16)) (dc (c.toNat % 16)) = c := by
 have := c.toNat_lt
 unfold by2
 rw [vl_dc _ (by omega),vl_dc _ (by omega),← UInt8.toNat_inj,UInt8.toNat_ofNat']
 omega
theorem vl_h (c : UInt8) : ¬ vl (dc (c.toNat / 16)) < 0 ∧ ¬ vl (dc (c.toNat % 16)) < 0 := by
 have := c.toNat_lt
 rw [vl_dc _ (by omega),vl_dc _ (by omega)]
 omega
def ends (d : List UInt8) : Prop := ∀ c r,d = c :: r → manifest_plain c = false ∧ c ≠ 37
theorem wd_q : ∀ (s d : List UInt8) (p : Nat) (acc : List UInt8),ends d → wd (s.flatMap q1 ++ d) p acc = (acc ++ s,p + (s.flatMap q1).length,0)
 | [],d,p,acc,h => by
  cases d with
  | nil => simp [wd]
  | cons c r =>
   obtain ⟨h1,h2⟩ := h c r rfl
   show wd (c :: r) p acc = _
   unfold wd
   rw [h1,if_neg (by decide),if_pos h2]
   simp
 | c :: s,d,p,acc,h => by
  rw [List.flatMap_cons,List.append_assoc]
  cases hp : manifest_plain c
  ·have e : q1 c = [37,dc (c.toNat / 16),dc (c.toNat % 16)] := by unfold q1; rw [hp]; rfl
   rw [e]
   show wd (37 :: dc (c.toNat / 16) :: dc (c.toNat % 16) :: (s.flatMap q1 ++ d)) p acc = _
   unfold wd
   rw [plain37,if_neg (by decide),if_neg (by simp)]
   dsimp only
   rw [if_neg (vl_h c).1,if_neg (vl_h c).2,by2_h2x,hp,if_neg (by decide),wd_q s d _ _ h]
   refine Prod.ext ?_ (Prod.ext ?_ rfl)
   ·simp
   ·simp only [List.length_append,List.length_cons,List.length_nil]; omega
  ·have e : q1 c = [c] := by unfold q1; rw [hp]; rfl
   rw [e]
   show wd (c :: (s.flatMap q1 ++ d)) p acc = _
   unfold wd
   rw [hp,if_pos rfl,wd_q s d _ _ h]
   refine Prod.ext ?_ (Prod.ext ?_ rfl)
   ·simp
   ·simp only [List.length_append,List.length_cons,List.length_nil]; omega
theorem dc_ne : ∀ k : Nat,k < 16 → dc k ≠ 32 ∧ dc k ≠ 10 := by decide
theorem byteS_app (a d : List UInt8) (k : Nat) : byteS (a ++ d) (a.length + k) = byteS d k := by
 unfold byteS; rw [List.getD_eq_getElem?_getD,List.getElem?_append_right (by omega),List.getD_eq_getElem?_getD,Nat.add_sub_cancel_left]
theorem wordS_q (a s d : List UInt8) (h : ends d) (h0 : s = [] → ∀ c r,d = c :: r → c = 32 ∨ c = 10) : wordS (a ++ (Qt s ++ d)) a.length = (s,a.length + (Qt s).length,0) := by
 unfold wordS Qt
 by_cases hs : s = []
 ·subst hs
  rw [if_pos rfl]
  have : lone (a ++ ([37] ++ d)) a.length = true := by
   unfold lone
   have e1 := byteS_app a ([37] ++ d) 0
   have e2 := byteS_app a ([37] ++ d) 1
   rw [Nat.add_zero] at e1
   rw [e1,e2]
   cases d with
   | nil => simp [byteS]
   | cons c r =>
    have := h0 rfl c r rfl
    rcases this with rfl | rfl <;> simp [byteS]
  rw [this,if_pos rfl]
  rfl
 ·rw [if_neg hs]
  have e : (a ++ (s.flatMap q1 ++ d)).drop a.length = s.flatMap q1 ++ d := by simp
  have hl : lone (a ++ (s.flatMap q1 ++ d)) a.length = false := by
   unfold lone
   have e1 := byteS_app a (s.flatMap q1 ++ d) 0
   have e2 := byteS_app a (s.flatMap q1 ++ d) 1
   rw [Nat.add_zero] at e1
   rw [e1,e2]
   obtain ⟨c,r,rfl⟩ : ∃ c r,s = c :: r := by cases s with
    | nil => exact absurd rfl hs
    | cons c r => exact ⟨c,r,rfl⟩
   have hk := c.toNat_lt
   cases hp : manifest_plain c
   ·have eq : q1 c = [37,dc (c.toNat / 16),dc (c.toNat % 16)] := by unfold q1; rw [hp]; rfl
    rw [List.flatMap_cons,eq]
    have hne := dc_ne (c.toNat / 16) (by omega)
    have b1 : byteS ([37,dc (c.toNat / 16),dc (c.toNat % 16)] ++ r.flatMap q1 ++ d) 1 = dc (c.toNat / 16) := rfl
    rw [b1]
    simp [hne]
   ·have eq : q1 c = [c] := by unfold q1; rw [hp]; rfl
    rw [List.flatMap_cons,eq]
    have b0 : byteS ([c] ++ r.flatMap q1 ++ d) 0 = c := rfl
    have : c ≠ 37 := by intro e; rw [e,plain37] at hp; cases hp
    rw [b0]
    simp [this]
  rw [hl,if_neg (by decide),e,wd_q s d _ _ h]
  have hn : (s.flatMap q1).length ≠ 0 := by
   intro h
   have := List.eq_nil_of_length_eq_zero h
   cases s with
   | nil => exact hs rfl
   | cons c r =>
    rw [List.flatMap_cons] at this
    have := (List.append_eq_nil_iff.1 this).1
    unfold q1 at this
    split at this <;> cases this
  dsimp only
  rw [if_neg (fun h => hn (by omega)),List.nil_append]
theorem wd_back : ∀ (n : Nat) (d : List UInt8) (p : Nat) (acc : List UInt8),d.length ≤ n → (wd d p acc).2.2 = 0 → ∃ u,(wd d p acc).1 = acc ++ u ∧ (wd d p acc).2.1 = p + (u.flatMap q1).length ∧ d = u.flatMap q1 ++ d.drop (u.flatMap q1).length ∧ ends (d.drop (u.flatMap q1).length) := by
 intro n
 induction n with
 | zero =>
  intro d p acc h _
  have : d = [] := by cases d with
   | nil => rfl
   | cons => simp at h
  subst this
  exact ⟨[],by simp [wd],by simp [wd],by simp,fun c r h => by simp at h⟩
 | succ n ih =>
  intro d p acc h he
  match d,h with
  | [],_ => exact ⟨[],by simp [wd],by simp [wd],by simp,fun c r h => by simp at h⟩
  | c :: d,h =>
   simp only [List.length_cons] at h
   unfold wd at he ⊢
   by_cases hp : manifest_plain c = true
   ·rw [if_pos hp] at he ⊢
    obtain ⟨u,h1,h2,h3,h4⟩ := ih d (p + 1) (acc ++ [c]) (by omega) he
    have e : q1 c = [c] := by unfold q1; rw [if_pos hp]
    refine ⟨c :: u,?_,?_,?_,?_⟩
    ·rw [h1,List.append_assoc]; rfl
    ·rw [h2,List.flatMap_cons,e]; simp; omega
    ·rw [List.flatMap_cons,e]
     simp only [List.cons_append,List.nil_append,List.length_cons,List.drop_succ_cons]
     rw [← h3]
    ·rw [List.flatMap_cons,e]
     simpa using h4
   ·rw [if_neg hp] at he ⊢
    by_cases h37 : c ≠ 37
    ·rw [if_pos h37] at he ⊢
     refine ⟨[],by simp,by simp,by simp,?_⟩
     intro c' r' e
     simp only [List.flatMap_nil,List.length_nil,List.drop_zero,List.cons.injEq] at e
     rw [← e.1]
     exact ⟨by simpa using hp,h37⟩
    ·rw [if_neg h37] at he ⊢
     match d,h,he with
     | [],_,he => exact absurd he (show ¬ (6 : Int) = 0 by decide)
     | [x],_,he =>
      dsimp only at he
      split at he <;> exact absurd he (show ¬ (6 : Int) = 0 by decide)
     | x :: y :: d',h,he =>
      dsimp only at he ⊢
      by_cases hv : vl x < 0
      ·rw [if_pos hv] at he; exact absurd he (show ¬ (6 : Int) = 0 by decide)
      ·rw [if_neg hv] at he ⊢
       by_cases hw : vl y < 0
       ·rw [if_pos hw] at he; exact absurd he (show ¬ (6 : Int) = 0 by decide)
       ·rw [if_neg hw] at he ⊢
        by_cases hq : manifest_plain (by2 x y) = true
        ·rw [if_pos hq] at he; exact absurd he (show ¬ (6 : Int) = 0 by decide)
        ·rw [if_neg hq] at he ⊢
         obtain ⟨u,h1,h2,h3,h4⟩ := ih d' (p + 3) (acc ++ [by2 x y]) (by simp only [List.length_cons] at h; omega) he
         have a := vl_ge x
         have b := vl_ge y
         have en : (by2 x y).toNat = 16 * (vl x).toNat + (vl y).toNat := by unfold by2; rw [UInt8.toNat_ofNat']; omega
         have e : q1 (by2 x y) = [37,x,y] := by
          unfold q1 h2x
          rw [if_neg hq,en,show (16 * (vl x).toNat + (vl y).toNat) / 16 = (vl x).toNat by omega,show (16 * (vl x).toNat + (vl y).toNat) % 16 = (vl y).toNat by omega,dc_vl x (by omega),dc_vl y (by omega)]
         have hc : c = 37 := Decidable.byContradiction h37
         refine ⟨by2 x y :: u,?_,?_,?_,?_⟩
         ·rw [h1,List.append_assoc]; rfl
         ·rw [h2,List.flatMap_cons,e]; simp; omega
         ·rw [List.flatMap_cons,e,hc]
          simp only [List.cons_append,List.nil_append,List.length_cons,List.drop_succ_cons]
          rw [← h3]
         ·rw [List.flatMap_cons,e]
          simpa using h4
theorem wordS_back (b : List UInt8) (p : Nat) (hp : p ≤ b.length) (he : (wordS b p).2.2 = 0) : b.drop p = Qt (wordS b p).1 ++ b.drop (wordS b p).2.1 ∧ (wordS b p).2.1 = p + (Qt (wordS b p).1).length := by
 unfold wordS at he ⊢
 cases hl : lone b p
 ·rw [hl,if_neg (by decide)] at he
  rw [if_neg (by decide)]
  dsimp only at he ⊢
  by_cases hc : (wd (b.drop p) p []).2.2 = 0 ∧ (wd (b.drop p) p []).2.1 = p
  ·rw [if_pos hc] at he; exact absurd he (show ¬ (6 : Int) = 0 by decide)
  ·rw [if_neg hc] at he ⊢
   obtain ⟨u,h1,h2,h3,h4⟩ := wd_back _ (b.drop p) p [] (Nat.le_refl _) he
   rw [List.nil_append] at h1
   rw [h1,h2]
   have hu : u ≠ [] := by
    intro h
    rw [h] at h2
    exact hc ⟨he,by simpa using h2⟩
   have eq : Qt u = u.flatMap q1 := by unfold Qt; rw [if_neg hu]
   rw [eq]
   refine ⟨?_,rfl⟩
   rw [List.drop_drop] at h3
   exact h3
 ·rw [if_pos rfl]
  dsimp only
  unfold lone at hl
  simp only [Bool.and_eq_true,beq_iff_eq] at hl
  have hlt : p < b.length := by
   refine Decidable.byContradiction fun hc => ?_
   have := hl.1
   rw [byteS_ge (by omega)] at this
   revert this; decide
  refine ⟨?_,rfl⟩
  rw [List.drop_eq_getElem_cons hlt,← byteS_lt hlt,hl.1]
  rfl
end Go.Proofs.YtebbaokcgnjfiaaDoor.F
