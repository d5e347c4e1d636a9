import Derived.Test.YtebbaokcgnjfiaaDoorLBNum
set_option linter.unusedVariables false
set_option linter.unusedSimpArgs false
namespace Go.Proofs.YtebbaokcgnjfiaaDoor.F
open Go Go.RowKit Go.Proofs.YtebbaokcgnjfiaaDoor.K
section
variable {b : List UInt8} {l : List TApiEntry} {fu mo : Bool}
theorem sub1' {n t k : Nat} (h : n - t = k + 1) : n - (t + 1) = k := by omega
theorem wordS_in (b : List UInt8) (q : Nat) (hq : q ≤ b.length) : (wordS b q).2.1 ≤ b.length := by
 unfold wordS
 split
 ·rename_i h
  unfold lone at h
  simp only [Bool.and_eq_true,beq_iff_eq] at h
  have hlt : q < b.length := by
   refine Decidable.byContradiction fun hc => ?_
   have h1 := h.1
   rw [byteS_ge (by omega)] at h1
   exact absurd h1 (by decide)
  exact hlt
 ·dsimp only
  split
  ·exact hq
  ·have := (wd_at (b.drop q).length (b.drop q) q [] (Nat.le_refl _)).2.1
   rw [List.length_drop] at this
   omega
theorem drop_at {q : Nat} {c : UInt8} {d : List UInt8} (h : b.drop q = c :: d) : q < b.length ∧ byteS b q = c ∧ b.drop (q + 1) = d := by
 have hlt : q < b.length := by
  refine Decidable.byContradiction fun hc => ?_
  rw [List.drop_eq_nil_of_le (by omega)] at h; cases h
 have e := List.drop_eq_getElem_cons hlt
 rw [h] at e
 exact ⟨hlt,by rw [byteS_lt hlt]; exact (List.cons.inj e).1.symm,(List.cons.inj e).2.symm⟩
theorem at_drop {q : Nat} {c : UInt8} (hc : c ≠ 0) (h : byteS b q = c) : q < b.length ∧ b.drop q = c :: b.drop (q + 1) := by
 have hlt : q < b.length := by
  refine Decidable.byContradiction fun hx => ?_
  rw [byteS_ge (by omega)] at h
  exact hc h.symm
 refine ⟨hlt,?_⟩
 rw [List.drop_eq_getElem_cons hlt,← byteS_lt hlt,h]
theorem nat_ne (x c : UInt8) : ((x.toNat : Int) != (c.toNat : Int)) = (x != c) := by
 rw [Bool.eq_iff_iff,bne_iff_ne,bne_iff_ne]
 constructor
 ·intro h e; rw [e] at h; exact h rfl
 ·intro h e; exact h (UInt8.toNat_inj.1 (by omega))
theorem want_ok {p : Nat} (hp : p ≤ b.length) (hb : b.length ≤ 100000000) (c : UInt8) : manifest_text_want (rdr b (p : Int) 0 l fu mo) c = some (if byteS b p = c then rdr b ((p + 1 : Nat) : Int) 0 l fu mo else rdr b (p : Int) 6 l fu mo) := by
 unfold manifest_text_want
 rw [peek_ok hp,Option.bind_some,nat_ne]
 by_cases h : byteS b p = c
 ·rw [show (byteS b p != c) = false from by simp [h],cond_false,if_pos h,show (rdr b (p : Int) 0 l fu mo).f_text.f_at = (p : Int) from rfl,wI (by omega)]
  rfl
 ·rw [show (byteS b p != c) = true from by simpa using h,cond_true,if_neg h]
  rfl
theorem want_e {q e : Int} (he : e ≠ 0) {c : UInt8} (hc : c ≠ 0) : manifest_text_want (rdr b q e l fu mo) c = some (rdr b q e l fu mo) := by
 unfold manifest_text_want
 rw [peek_e he,Option.bind_some,nat_ne,show ((0 : UInt8) != c) = true from by rw [bne_iff_ne]; exact fun h => hc h.symm,cond_true]
 unfold manifest_text_fail rdr
 dsimp only
 rw [show (e == 0) = false from by simpa using he,cond_false]
 rfl
theorem wantT {q : Nat} {e : Int} (hq : q ≤ b.length) (hb : b.length ≤ 100000000) {c : UInt8} (hc : c ≠ 0) : ∃ (q' : Nat) (e' : Int),manifest_text_want (rdr b (q : Int) e l fu mo) c = some (rdr b (q' : Int) e' l fu mo) ∧ q' ≤ b.length ∧ (e' = 0 → e = 0 ∧ b.drop q = c :: b.drop q') := by
 by_cases he : e = 0
 ·subst he
  by_cases h : byteS b q = c
  ·obtain ⟨h1,h2⟩ := at_drop hc h
   exact ⟨q + 1,0,by rw [want_ok hq hb,if_pos h],h1,fun _ => ⟨rfl,h2⟩⟩
  ·exact ⟨q,6,by rw [want_ok hq hb,if_neg h],hq,fun h => absurd h (by decide)⟩
 ·exact ⟨q,e,want_e he hc,hq,fun h => absurd h he⟩
theorem wantF {q : Nat} (hb : b.length ≤ 100000000) {c : UInt8} {d : List UInt8} (h : b.drop q = c :: d) : ∃ q' : Nat,manifest_text_want (rdr b (q : Int) 0 l fu mo) c = some (rdr b (q' : Int) 0 l fu mo) ∧ q' ≤ b.length ∧ b.drop q' = d := by
 obtain ⟨h1,h2,h3⟩ := drop_at h
 exact ⟨q + 1,by rw [want_ok (by omega) hb,if_pos h2],by omega,h3⟩
theorem num_run (base : Nat) (hbs : base = 8 ∨ base = 10) (hb : b.length ≤ 100000000) (r0 : TManifestReader) (hr : r0.f_l = l) (w : TManifestReader) (hw : w.f_text.f_b = b ∧ w.f_text.f_e = 0 ∧ w.f_full = fu ∧ w.f_more = mo) : ∀ k (p n c : Nat),b.length - p = k → p ≤ b.length → n ≤ 17592186044416 → c ≤ p →
  loopO (fun s => manifest_reader_number_l1 r0 (base : Int) w s.1 s.2.1 s.2.2) ((p : Int),(n : Int),(c : Int)) = some (if (nm base (b.drop p) p n c).2.2.2 = 0 then .inl (((nm base (b.drop p) p n c).2.1 : Int),((nm base (b.drop p) p n c).1 : Int),((nm base (b.drop p) p n c).2.2.1 : Int)) else .inr (0,rdr b ((nm base (b.drop p) p n c).2.1 : Int) 6 l fu mo)) := by
 obtain ⟨⟨wb,wp,we⟩,wl,wf,wm⟩ := w
 obtain ⟨w1,w2,w3,w4⟩ := hw
 dsimp only at w1 w2 w3 w4
 subst w1; subst w2; subst w3; subst w4; subst hr
 have pk : ∀ p : Nat,p ≤ wb.length → manifest_text_peek ({ f_text := ({ f_b := wb,f_at := (p : Int),f_e := 0 } : TManifestText),f_l := r0.f_l,f_full := wf,f_more := wm } : TManifestReader) = some (byteS wb p) := fun p hp => peek_ok hp
 intro k
 induction k with
 | zero =>
  intro p n c h1 h2 h3 h4
  have hd : wb.drop p = [] := List.drop_eq_nil_of_le (by omega)
  rw [hd,show nm base [] p n c = (n,p,c,0) from rfl]
  dsimp only
  rw [if_pos rfl]
  refine loop_end ?_
  show manifest_reader_number_l1 r0 (base : Int) _ (p : Int) (n : Int) (c : Int) = _
  unfold manifest_reader_number_l1
  dsimp only
  rw [show ((0 : Int) == 0) = true from rfl,cond_true,pk p h2,Option.bind_some,digit_eq,byteS_ge (by omega),vl0]
  rfl
 | succ k ih =>
  intro p n c h1 h2 h3 h4
  have hlt : p < wb.length := by omega
  have hd : wb.drop p = byteS wb p :: wb.drop (p + 1) := by rw [byteS_lt hlt]; exact List.drop_eq_getElem_cons hlt
  have hv := vl_ge (byteS wb p)
  have hstep : manifest_reader_number_l1 r0 (base : Int) { f_text := { f_b := wb,f_at := wp,f_e := 0 },f_l := wl,f_full := wf,f_more := wm } (p : Int) (n : Int) (c : Int) = if vl (byteS wb p) < 0 ∨ (base : Int) ≤ vl (byteS wb p) then some (.inr (.inl ((p : Int),(n : Int),(c : Int)))) else if c = 1 ∧ n = 0 then some (.inr (.inr (0,rdr wb (p : Int) 6 r0.f_l wf wm))) else some (.inl (((p + 1 : Nat) : Int),(((if n ≤ 1099511627776 then n * base + (vl (byteS wb p)).toNat else n : Nat)) : Int),((c + 1 : Nat) : Int))) := by
   unfold manifest_reader_number_l1
   dsimp only
   rw [show ((0 : Int) == 0) = true from rfl,cond_true,pk p h2,Option.bind_some,digit_eq]
   by_cases g1 : vl (byteS wb p) < 0
   ·rw [decide_eq_true g1,if_pos (.inl g1)]; rfl
   ·by_cases g2 : (base : Int) ≤ vl (byteS wb p)
    ·rw [decide_eq_false g1,decide_eq_true (show vl (byteS wb p) ≥ (base : Int) from g2),if_pos (.inr g2)]; rfl
    ·rw [decide_eq_false g1,decide_eq_false (show ¬ vl (byteS wb p) ≥ (base : Int) from g2),cond_false,cond_false,if_neg (fun h => h.elim g1 g2),show (((p : Int)) == (wb.length : Int)) = false from by simpa using by omega,cond_false]
     obtain ⟨v,hvv⟩ : ∃ v : Nat,vl (byteS wb p) = (v : Int) := ⟨(vl (byteS wb p)).toNat,by omega⟩
     have hvb : v < base := by omega
     have step2 : (cond (decide ((n : Int) ≤ 1099511627776))
       (some (Sum.inl ((IntKind.i64.wrap ((p : Int) + 1)),(IntKind.i64.wrap ((IntKind.i64.wrap ((n : Int) * (base : Int))) + (vl (byteS wb p)))),(IntKind.i64.wrap ((c : Int) + 1)))) : Option (Sum (Int × Int × Int) (Sum (Int × Int × Int) (Int × TManifestReader))))
       (some (.inl ((IntKind.i64.wrap ((p : Int) + 1)),(n : Int),(IntKind.i64.wrap ((c : Int) + 1)))))) = some (.inl (((p + 1 : Nat) : Int),(((if n ≤ 1099511627776 then n * base + (vl (byteS wb p)).toNat else n : Nat)) : Int),((c + 1 : Nat) : Int))) := by
      rw [hvv,Int.toNat_natCast,wI (x := (p : Int) + 1) (by omega),wI (x := (c : Int) + 1) (by omega)]
      by_cases hbig : n ≤ 1099511627776
      ·have hm : (n : Int) * (base : Int) = ((n * base : Nat) : Int) := by simp
       have hmb : n * base ≤ 10995116277760 := by rcases hbs with e | e <;> rw [e] <;> omega
       rw [decide_eq_true (by omega),cond_true,if_pos hbig,hm,wI (x := ((n * base : Nat) : Int)) (by omega),wI (x := ((n * base : Nat) : Int) + (v : Int)) (by omega)]
       rfl
      ·rw [decide_eq_false (by omega),cond_false,if_neg hbig]
       rfl
     by_cases g3 : c = 1
     ·rw [show (((c : Int)) == 1) = true from by simp [g3],cond_true]
      by_cases g4 : n = 0
      ·rw [show (((n : Int)) == 0) = true from by simp [g4],cond_true,if_pos ⟨g3,g4⟩]; rfl
      ·rw [show (((n : Int)) == 0) = false from by simpa using g4,cond_false,if_neg (fun h => g4 h.2)]
       exact step2
     ·rw [show (((c : Int)) == 1) = false from by simpa using by omega,cond_false,if_neg (fun h => g3 h.1)]
      exact step2
  rw [hd]
  by_cases g1 : vl (byteS wb p) < 0 ∨ (base : Int) ≤ vl (byteS wb p)
  ·rw [if_pos g1] at hstep
   have e : nm base (byteS wb p :: wb.drop (p + 1)) p n c = (n,p,c,0) := by unfold nm; rw [if_pos g1]
   rw [e,loop_end (s := ((p : Int),(n : Int),(c : Int))) hstep]
   rfl
  ·by_cases g2 : c = 1 ∧ n = 0
   ·rw [if_neg g1,if_pos g2] at hstep
    have e : nm base (byteS wb p :: wb.drop (p + 1)) p n c = (0,p,c,6) := by unfold nm; rw [if_neg g1,if_pos g2]
    rw [e,loop_end (s := ((p : Int),(n : Int),(c : Int))) hstep]
    rfl
   ·rw [if_neg g1,if_neg g2] at hstep
    have e : nm base (byteS wb p :: wb.drop (p + 1)) p n c = nm base (wb.drop (p + 1)) (p + 1) (if n ≤ 1099511627776 then n * base + (vl (byteS wb p)).toNat else n) (c + 1) := by conv => lhs; unfold nm; rw [if_neg g1,if_neg g2]
    have hnb : (if n ≤ 1099511627776 then n * base + (vl (byteS wb p)).toNat else n) ≤ 17592186044416 := by
     split
     ·rcases hbs with e | e <;> rw [e] <;> omega
     ·exact h3
    rw [e,loop_next (s := ((p : Int),(n : Int),(c : Int))) hstep,ih (p + 1) _ (c + 1) (sub1' h1) hlt hnb (by omega)]
theorem number_ok {p : Nat} (base : Nat) (hbs : base = 8 ∨ base = 10) (hp : p ≤ b.length) (hb : b.length ≤ 100000000) : ∃ (n : Nat) (q : Nat) (e : Int),manifest_reader_number (rdr b (p : Int) 0 l fu mo) (base : Int) = some ((n : Int),rdr b (q : Int) e l fu mo) ∧ q ≤ b.length ∧
  (byteS b p = 32 ∧ (nm base (b.drop (p + 1)) (p + 1) 0 0).2.2.2 = 0 ∧ (nm base (b.drop (p + 1)) (p + 1) 0 0).2.2.1 ≠ 0 ∧ (nm base (b.drop (p + 1)) (p + 1) 0 0).1 ≤ 1099511627776 ∧ e = 0 ∧ n = (nm base (b.drop (p + 1)) (p + 1) 0 0).1 ∧ q = (nm base (b.drop (p + 1)) (p + 1) 0 0).2.1 ∨
     ¬ (byteS b p = 32 ∧ (nm base (b.drop (p + 1)) (p + 1) 0 0).2.2.2 = 0 ∧ (nm base (b.drop (p + 1)) (p + 1) 0 0).2.2.1 ≠ 0 ∧ (nm base (b.drop (p + 1)) (p + 1) 0 0).1 ≤ 1099511627776) ∧ e ≠ 0) := by
 unfold manifest_reader_number
 rw [want_ok hp hb,Option.bind_some]
 by_cases h32 : byteS b p = 32
 ·rw [if_pos h32]
  obtain ⟨hlt,hd⟩ := at_drop (by decide) h32
  have hrun := num_run (b := b) (l := l) (fu := fu) (mo := mo) base hbs hb (rdr b (p : Int) 0 l fu mo) rfl (rdr b ((p + 1 : Nat) : Int) 0 l fu mo) ⟨rfl,rfl,rfl,rfl⟩ (b.length - (p + 1)) (p + 1) 0 0 rfl hlt (by omega) (by omega)
  obtain ⟨a1,a2,a3⟩ := nm_at base (b.drop (p + 1)) (p + 1) 0 0
  rw [List.length_drop] at a2
  have hrun' : loopO (fun s => manifest_reader_number_l1 (rdr b (p : Int) 0 l fu mo) (base : Int) (rdr b ((p + 1 : Nat) : Int) 0 l fu mo) s.1 s.2.1 s.2.2) ((rdr b ((p + 1 : Nat) : Int) 0 l fu mo).f_text.f_at,0,0) = _ := hrun
  rw [hrun']
  obtain ⟨n,hn⟩ : ∃ n,n = (nm base (b.drop (p + 1)) (p + 1) 0 0).1 := ⟨_,rfl⟩
  obtain ⟨q,hq⟩ : ∃ q,q = (nm base (b.drop (p + 1)) (p + 1) 0 0).2.1 := ⟨_,rfl⟩
  obtain ⟨c,hc⟩ : ∃ c,c = (nm base (b.drop (p + 1)) (p + 1) 0 0).2.2.1 := ⟨_,rfl⟩
  obtain ⟨e,he⟩ : ∃ e,e = (nm base (b.drop (p + 1)) (p + 1) 0 0).2.2.2 := ⟨_,rfl⟩
  rw [← hq] at a2
  rw [← hn,← hq,← hc,← he]
  by_cases he0 : e = 0
  ·rw [if_pos he0,bnd_inl]
   dsimp only
   by_cases hc0 : c = 0
   ·rw [show (((c : Int)) == 0) = true from by simp [hc0],cond_true]
    exact ⟨n,q,6,rfl,by omega,.inr ⟨fun h => h.2.2.1 hc0,by decide⟩⟩
   ·rw [show (((c : Int)) == 0) = false from by simpa using hc0,cond_false]
    by_cases hbig : n ≤ 1099511627776
    ·rw [decide_eq_false (by omega),cond_false]
     exact ⟨n,q,0,rfl,by omega,.inl ⟨h32,he0,hc0,hbig,rfl,rfl,rfl⟩⟩
    ·rw [decide_eq_true (by omega),cond_true]
     exact ⟨n,p + 1,9,rfl,by omega,.inr ⟨fun h => hbig h.2.2.2,by decide⟩⟩
  ·rw [if_neg he0,bnd_inr]
   exact ⟨0,q,6,rfl,by omega,.inr ⟨fun h => he0 h.2.1,by decide⟩⟩
 ·rw [if_neg h32]
  have e : loopO (fun s => manifest_reader_number_l1 (rdr b (p : Int) 0 l fu mo) (base : Int) (rdr b (p : Int) 6 l fu mo) s.1 s.2.1 s.2.2) ((rdr b (p : Int) 6 l fu mo).f_text.f_at,0,0) = some (.inl ((p : Int),0,0)) := loop_end rfl
  rw [e,bnd_inl]
  exact ⟨0,p,6,rfl,hp,.inr ⟨fun h => h32 h.1,by decide⟩⟩
theorem number_e {q e : Int} (he : e ≠ 0) (base : Int) : manifest_reader_number (rdr b q e l fu mo) base = some (0,rdr b q e l fu mo) := by
 unfold manifest_reader_number
 rw [want_e he (by decide),Option.bind_some]
 have h : loopO (fun s => manifest_reader_number_l1 (rdr b q e l fu mo) base (rdr b q e l fu mo) s.1 s.2.1 s.2.2) ((rdr b q e l fu mo).f_text.f_at,0,0) = some (.inl (q,0,0)) := by
  refine loop_end ?_
  show manifest_reader_number_l1 (rdr b q e l fu mo) base (rdr b q e l fu mo) q 0 0 = _
  unfold manifest_reader_number_l1
  rw [show ((rdr b q e l fu mo).f_text.f_e == 0) = false from by simpa [rdr] using he]
  rfl
 rw [h,bnd_inl]
 dsimp only
 rw [show ((0 : Int) == 0) = true from rfl,cond_true]
 unfold manifest_text_fail rdr
 dsimp only
 rw [show (e == 0) = false from by simpa using he,cond_false]
 rfl
theorem numT {q : Nat} {e : Int} (base : Nat) (hbs : base = 8 ∨ base = 10) (hq : q ≤ b.length) (hb : b.length ≤ 100000000) : ∃ (n : Int) (q' : Nat) (e' : Int),manifest_reader_number (rdr b (q : Int) e l fu mo) (base : Int) = some (n,rdr b (q' : Int) e' l fu mo) ∧ q' ≤ b.length ∧ (e' = 0 → e = 0 ∧ inM n ∧ b.drop q = 32 :: (dgs base n ++ b.drop q')) := by
 by_cases he : e = 0
 ·subst he
  obtain ⟨n,q',e',h1,h2,h3⟩ := number_ok (b := b) (l := l) (fu := fu) (mo := mo) base hbs hq hb
  refine ⟨n,q',e',h1,h2,fun h0 => ?_⟩
  rcases h3 with ⟨g1,g2,g3,g4,g5,g6,g7⟩ | ⟨_,g⟩
  ·obtain ⟨s,s1,s2,s3,s4,s5,s6⟩ := nm_back (base := base) (by omega) (b.drop (q + 1)) (q + 1) 0 0 (.inl ⟨rfl,rfl⟩) g2 g4
   obtain ⟨a1,a2⟩ := at_drop (by decide) g1
   rw [Nat.zero_add] at s3 s5 s6
   have hk : Dg base s.length (nm base (b.drop (q + 1)) (q + 1) 0 0).1 := s6.resolve_left (by omega)
   have hs : pd base s.length (nm base (b.drop (q + 1)) (q + 1) 0 0).1 = s := by rw [s5]; rfl
   have hdg := dgs_eq (b := base) (by omega) hk
   rw [hs,← g6] at hdg
   refine ⟨rfl,⟨by omega,by omega⟩,?_⟩
   rw [a2,hdg,g7,s2]
   rw [List.drop_drop] at s1
   rw [← s1]
  ·exact absurd h0 g
 ·exact ⟨0,q,e,number_e he _,hq,fun h => absurd h he⟩
theorem numF {q : Nat} (base : Nat) (hbs : base = 8 ∨ base = 10) (hb : b.length ≤ 100000000) {n : Int} (hn : inM n) {d : List UInt8} (hd : noDig base d) (h : b.drop q = 32 :: (dgs base n ++ d)) : ∃ q' : Nat,manifest_reader_number (rdr b (q : Int) 0 l fu mo) (base : Int) = some (n,rdr b (q' : Int) 0 l fu mo) ∧ q' ≤ b.length ∧ b.drop q' = d := by
 obtain ⟨a1,a2,a3⟩ := drop_at h
 obtain ⟨k,k1,k2,k3,k4⟩ := dgs_any (b := base) (by omega) hn
 have hnm := nm_q (base := base) (by omega) d (q + 1) k n.toNat k2 (by have := hn.2; omega)
 rw [nm_end hd,← k3,← a3] at hnm
 obtain ⟨n',q',e',h1,h2,h3⟩ := number_ok (b := b) (l := l) (fu := fu) (mo := mo) base hbs (Nat.le_of_lt a1) hb
 rw [hnm] at h3
 have hk := k2.1
 have hn2 := hn.1
 have hn3 := hn.2
 rcases h3 with ⟨_,_,_,_,g5,g6,g7⟩ | ⟨g,_⟩
 ·dsimp only at g6 g7
  subst g5; subst g6; subst g7
  refine ⟨q + 1 + k,by rw [h1,show ((n.toNat : Nat) : Int) = n by omega],h2,?_⟩
  rw [← List.drop_drop,a3,← k4,List.drop_left]
 ·exact absurd ⟨a2,rfl,by dsimp only; omega,by dsimp only; omega⟩ g
theorem wordT {q : Nat} {e : Int} (hq : q ≤ b.length) (hb : b.length ≤ 100000000) : ∃ (s : List UInt8) (q' : Nat) (e' : Int),manifest_reader_word (rdr b (q : Int) e l fu mo) = some (s,rdr b (q' : Int) e' l fu mo) ∧ q' ≤ b.length ∧ (e' = 0 → e = 0 ∧ b.drop q = Qt s ++ b.drop q') := by
 by_cases he : e = 0
 ·subst he
  have hw := word_ok b l fu mo q hb hq
  refine ⟨(wordS b q).1,(wordS b q).2.1,(wordS b q).2.2,hw,wordS_in b q hq,fun h0 => ⟨rfl,(wordS_back b q hq h0).1⟩⟩
 ·exact ⟨[],q,e,word_e _ he,hq,fun h => absurd h he⟩
theorem wordF {q : Nat} (hq : q ≤ b.length) (hb : b.length ≤ 100000000) {s d : List UInt8} (hd : ends d) (h0 : s = [] → ∀ c r,d = c :: r → c = 32 ∨ c = 10) (h : b.drop q = Qt s ++ d) : ∃ q' : Nat,manifest_reader_word (rdr b (q : Int) 0 l fu mo) = some (s,rdr b (q' : Int) 0 l fu mo) ∧ q' ≤ b.length ∧ b.drop q' = d := by
 have hw := word_ok b l fu mo q hb hq
 have e : b = b.take q ++ (Qt s ++ d) := by rw [← h,List.take_append_drop]
 have hl : (b.take q).length = q := by rw [List.length_take]; omega
 have hs := wordS_q (b.take q) s d hd h0
 rw [← e,hl] at hs
 have hin := wordS_in b q hq
 rw [hs] at hw hin
 refine ⟨q + (Qt s).length,hw,hin,?_⟩
 rw [← List.drop_drop,h,List.drop_left]
theorem pairT {q : Nat} (hq : q ≤ b.length) (hb : b.length ≤ 100000000) : ∃ (c : UInt8) (q' : Nat) (e' : Int),manifest_reader_pair (rdr b (q : Int) 0 l fu mo) = some (c,rdr b (q' : Int) e' l fu mo) ∧ q' ≤ b.length ∧ (e' = 0 → b.drop q = h2x c ++ b.drop q') := by
 rw [pair_ok hq hb]
 by_cases h1 : vl (byteS b q) < 0
 ·rw [if_pos h1]; exact ⟨_,q,6,rfl,hq,fun h => absurd h (by decide)⟩
 ·have hlt := byteS_vl (b := b) (p := q) (by omega)
  rw [if_neg h1]
  by_cases h2 : vl (byteS b (q + 1)) < 0
  ·rw [if_pos h2]; exact ⟨_,q + 1,6,rfl,hlt,fun h => absurd h (by decide)⟩
  ·have hlt2 := byteS_vl (b := b) (p := q + 1) (by omega)
   rw [if_neg h2]
   refine ⟨_,q + 2,0,rfl,hlt2,fun _ => ?_⟩
   have v1 := vl_ge (byteS b q)
   have v2 := vl_ge (byteS b (q + 1))
   have e : h2x (by2 (byteS b q) (byteS b (q + 1))) = [byteS b q,byteS b (q + 1)] := by
    unfold h2x by2
    have hn : (UInt8.ofNat (16 * (vl (byteS b q)).toNat + (vl (byteS b (q + 1))).toNat)).toNat = 16 * (vl (byteS b q)).toNat + (vl (byteS b (q + 1))).toNat := by rw [UInt8.toNat_ofNat']; omega
    rw [hn,show (16 * (vl (byteS b q)).toNat + (vl (byteS b (q + 1))).toNat) / 16 = (vl (byteS b q)).toNat by omega,show (16 * (vl (byteS b q)).toNat + (vl (byteS b (q + 1))).toNat) % 16 = (vl (byteS b (q + 1))).toNat by omega,dc_vl _ (by omega),dc_vl _ (by omega)]
   rw [e,List.drop_eq_getElem_cons hlt,List.drop_eq_getElem_cons hlt2,byteS_lt hlt,byteS_lt hlt2]
   rfl
theorem pairF {q : Nat} (hb : b.length ≤ 100000000) {c : UInt8} {d : List UInt8} (h : b.drop q = h2x c ++ d) : ∃ q' : Nat,manifest_reader_pair (rdr b (q : Int) 0 l fu mo) = some (c,rdr b (q' : Int) 0 l fu mo) ∧ q' ≤ b.length ∧ b.drop q' = d := by
 have h : b.drop q = dc (c.toNat / 16) :: dc (c.toNat % 16) :: d := h
 obtain ⟨a1,a2,a3⟩ := drop_at h
 obtain ⟨b1,b2,b3⟩ := drop_at a3
 obtain ⟨v1,v2⟩ := vl_h c
 rw [pair_ok (by omega) hb,a2,b2,if_neg v1,if_neg v2,by2_h2x]
 exact ⟨q + 2,rfl,b1,b3⟩
end
end Go.Proofs.YtebbaokcgnjfiaaDoor.F
