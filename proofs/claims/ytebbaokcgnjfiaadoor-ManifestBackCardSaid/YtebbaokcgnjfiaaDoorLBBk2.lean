import Derived.Test.YtebbaokcgnjfiaaDoorLBBk1
import Derived.Test.YtebbaokcgnjfiaaDoorLBMan3
set_option linter.unusedVariables false
set_option linter.unusedSimpArgs false
namespace Go.Proofs.YtebbaokcgnjfiaaDoor.F
open Go Go.RowKit Go.Proofs.YtebbaokcgnjfiaaDoor.K
section
variable {b : List UInt8} {l : List TApiEntry} {fu mo : Bool}
theorem num8T {q : Nat} {e : Int} (hq : q ≤ b.length) (hb : b.length ≤ 100000000) : ∃ (n : Int) (q' : Nat) (e' : Int),manifest_reader_number { f_text := { f_b := b,f_at := (q : Int),f_e := e },f_l := l,f_full := fu,f_more := mo } 8 = some (n,{ f_text := { f_b := b,f_at := (q' : Int),f_e := e' },f_l := l,f_full := fu,f_more := mo }) ∧ q' ≤ b.length ∧ (e' = 0 → e = 0 ∧ inM n ∧ b.drop q = 32 :: (dgs 8 n ++ b.drop q')) := numT 8 (.inl rfl) hq hb
theorem num10T {q : Nat} {e : Int} (hq : q ≤ b.length) (hb : b.length ≤ 100000000) : ∃ (n : Int) (q' : Nat) (e' : Int),manifest_reader_number { f_text := { f_b := b,f_at := (q : Int),f_e := e },f_l := l,f_full := fu,f_more := mo } 10 = some (n,{ f_text := { f_b := b,f_at := (q' : Int),f_e := e' },f_l := l,f_full := fu,f_more := mo }) ∧ q' ≤ b.length ∧ (e' = 0 → e = 0 ∧ inM n ∧ b.drop q = 32 :: (dgs 10 n ++ b.drop q')) := numT 10 (.inr rfl) hq hb
theorem wantT' {q : Nat} {e : Int} (hq : q ≤ b.length) (hb : b.length ≤ 100000000) {c : UInt8} (hc : c ≠ 0) : ∃ (q' : Nat) (e' : Int),manifest_text_want { f_text := { f_b := b,f_at := (q : Int),f_e := e },f_l := l,f_full := fu,f_more := mo } c = some { f_text := { f_b := b,f_at := (q' : Int),f_e := e' },f_l := l,f_full := fu,f_more := mo } ∧ q' ≤ b.length ∧ (e' = 0 → e = 0 ∧ b.drop q = c :: b.drop q') := wantT hq hb hc
theorem wordT' {q : Nat} {e : Int} (hq : q ≤ b.length) (hb : b.length ≤ 100000000) : ∃ (s : List UInt8) (q' : Nat) (e' : Int),manifest_reader_word { f_text := { f_b := b,f_at := (q : Int),f_e := e },f_l := l,f_full := fu,f_more := mo } = some (s,{ f_text := { f_b := b,f_at := (q' : Int),f_e := e' },f_l := l,f_full := fu,f_more := mo }) ∧ q' ≤ b.length ∧ (e' = 0 → e = 0 ∧ b.drop q = Qt s ++ b.drop q') := wordT hq hb
theorem entryT {q : Nat} (hq : q < b.length) (hb : b.length ≤ 100000000) (hl : l.length < 16384) {k : Int} (hk : 1 ≤ k ∧ k ≤ 6) : ∃ (x : TApiEntry) (q' : Nat) (e' : Int),manifest_reader_entry (rdr b (q : Int) 0 l fu mo) k = some (rdr b (q' : Int) e' (l ++ [x]) (k == 1) (k != 6)) ∧ q' ≤ b.length ∧
  (e' = 0 → letterK k :: b.drop (q + 1) = lineS x ++ b.drop q' ∧ RightP x ∧ x.Kind = k ∧ x.Data = [] ∧ x.Attrs = [] ∧ (¬ (k = 3 ∨ k = 6) → x.Target = [])) := by
 unfold manifest_reader_entry rdr
 dsimp only
 rw [show (((l.length : Int)) == 16384) = false from by simpa using by omega,cond_false,wI (by omega),show ((q : Int) + 1) = ((q + 1 : Nat) : Int) by omega]
 have head : ∃ (m u g t : Int) (q1 : Nat) (e1 : Int),(cond (k != 6)
   (Option.bind (manifest_reader_number ({ f_text := ({ f_b := b,f_at := ((q + 1 : Nat) : Int),f_e := 0 } : TManifestText),f_l := l,f_full := fu,f_more := mo } : TManifestReader) 8) fun number =>
   Option.bind (manifest_reader_number ({ f_text := number.2.f_text,f_l := l,f_full := number.2.f_full,f_more := number.2.f_more } : TManifestReader) 10) fun number1 =>
   Option.bind (manifest_reader_number ({ f_text := number1.2.f_text,f_l := l,f_full := number1.2.f_full,f_more := number1.2.f_more } : TManifestReader) 10) fun number2 =>
   Option.bind (manifest_reader_number ({ f_text := number2.2.f_text,f_l := l,f_full := number2.2.f_full,f_more := number2.2.f_more } : TManifestReader) 10) fun number3 =>
   some (number3.2.f_text.f_b,number3.2.f_text.f_at,number3.2.f_text.f_e,number3.2.f_full,number3.2.f_more,number.1,number1.1,number2.1,number3.1))
   (some (b,((q + 1 : Nat) : Int),(0 : Int),fu,mo,(0 : Int),(0 : Int),(0 : Int),(0 : Int)))) = some (b,(q1 : Int),e1,fu,mo,m,u,g,t) ∧ q1 ≤ b.length ∧
   (e1 = 0 → b.drop (q + 1) = (if k = 6 then [] else 32 :: (dgs 8 m ++ 32 :: (dgs 10 u ++ 32 :: (dgs 10 g ++ 32 :: dgs 10 t)))) ++ b.drop q1 ∧ (k ≠ 6 → inM m ∧ inM u ∧ inM g ∧ inM t)) := by
  by_cases h6 : k = 6
  ·rw [show (k != 6) = false from by simp [h6],cond_false]
   exact ⟨0,0,0,0,q + 1,0,rfl,hq,fun _ => ⟨by rw [if_pos h6]; rfl,fun h => absurd h6 h⟩⟩
  ·rw [show (k != 6) = true from by simpa using h6,cond_true]
   obtain ⟨m,q1,e1,h1,g1,c1⟩ := num8T (b := b) (l := l) (fu := fu) (mo := mo) (q := q + 1) (e := 0) hq hb
   obtain ⟨u,q2,e2,h2,g2,c2⟩ := num10T (b := b) (l := l) (fu := fu) (mo := mo) (q := q1) (e := e1) g1 hb
   obtain ⟨g,q3,e3,h3,g3,c3⟩ := num10T (b := b) (l := l) (fu := fu) (mo := mo) (q := q2) (e := e2) g2 hb
   obtain ⟨t,q4,e4,h4,g4,c4⟩ := num10T (b := b) (l := l) (fu := fu) (mo := mo) (q := q3) (e := e3) g3 hb
   rw [h1,Option.bind_some]
   dsimp only
   rw [h2,Option.bind_some]
   dsimp only
   rw [h3,Option.bind_some]
   dsimp only
   rw [h4,Option.bind_some]
   refine ⟨m,u,g,t,q4,e4,rfl,g4,fun h0 => ?_⟩
   obtain ⟨z3,i4,d4⟩ := c4 h0
   obtain ⟨z2,i3,d3⟩ := c3 z3
   obtain ⟨z1,i2,d2⟩ := c2 z2
   obtain ⟨_,i1,d1⟩ := c1 z1
   rw [if_neg h6,d1,d2,d3,d4]
   exact ⟨by simp,fun _ => ⟨i1,i2,i3,i4⟩⟩
 obtain ⟨m,u,g,t,q1,e1,hh,g1,c1⟩ := head
 rw [hh,Option.bind_some]
 dsimp only
 have mid : ∃ (sz dv : Int) (q2 : Nat) (e2 : Int),(cond (k == 1)
   (Option.bind (manifest_reader_number ({ f_text := ({ f_b := b,f_at := (q1 : Int),f_e := e1 } : TManifestText),f_l := l,f_full := fu,f_more := mo } : TManifestReader) 10) fun number4 =>
   some (number4.2.f_text.f_b,number4.2.f_text.f_at,number4.2.f_text.f_e,number4.2.f_full,number4.2.f_more,number4.1,(0 : Int)))
   (cond (k == 4)
   (Option.bind (manifest_reader_number ({ f_text := ({ f_b := b,f_at := (q1 : Int),f_e := e1 } : TManifestText),f_l := l,f_full := fu,f_more := mo } : TManifestReader) 10) fun number5 =>
   some (number5.2.f_text.f_b,number5.2.f_text.f_at,number5.2.f_text.f_e,number5.2.f_full,number5.2.f_more,(0 : Int),number5.1))
   (cond (k == 5)
   (Option.bind (manifest_reader_number ({ f_text := ({ f_b := b,f_at := (q1 : Int),f_e := e1 } : TManifestText),f_l := l,f_full := fu,f_more := mo } : TManifestReader) 10) fun number6 =>
   some (number6.2.f_text.f_b,number6.2.f_text.f_at,number6.2.f_text.f_e,number6.2.f_full,number6.2.f_more,(0 : Int),number6.1))
   (some (b,(q1 : Int),e1,fu,mo,(0 : Int),(0 : Int)))))) = some (b,(q2 : Int),e2,fu,mo,sz,dv) ∧ q2 ≤ b.length ∧
   (e2 = 0 → e1 = 0 ∧ b.drop q1 = (if k = 1 then 32 :: dgs 10 sz else if k = 4 ∨ k = 5 then 32 :: dgs 10 dv else []) ++ b.drop q2 ∧ (k = 1 → inM sz) ∧ (k = 4 ∨ k = 5 → inM dv)) := by
  obtain ⟨n,q2,e2,h2,g2,c2⟩ := num10T (b := b) (l := l) (fu := fu) (mo := mo) (q := q1) (e := e1) g1 hb
  rw [h2,kb,kb,kb]
  by_cases k1 : k = 1
  ·rw [decide_eq_true k1,cond_true,Option.bind_some]
   exact ⟨n,0,q2,e2,rfl,g2,fun h0 => by
    obtain ⟨z,i,d⟩ := c2 h0
    refine ⟨z,by rw [if_pos k1,d]; rfl,fun _ => i,fun h => by omega⟩⟩
  ·rw [decide_eq_false k1,cond_false]
   by_cases k4 : k = 4
   ·rw [decide_eq_true k4,cond_true,Option.bind_some]
    exact ⟨0,n,q2,e2,rfl,g2,fun h0 => by
     obtain ⟨z,i,d⟩ := c2 h0
     refine ⟨z,by rw [if_neg k1,if_pos (.inl k4),d]; rfl,fun h => absurd h k1,fun _ => i⟩⟩
   ·rw [decide_eq_false k4,cond_false]
    by_cases k5 : k = 5
    ·rw [decide_eq_true k5,cond_true,Option.bind_some]
     exact ⟨0,n,q2,e2,rfl,g2,fun h0 => by
      obtain ⟨z,i,d⟩ := c2 h0
      refine ⟨z,by rw [if_neg k1,if_pos (.inr k5),d]; rfl,fun h => absurd h k1,fun _ => i⟩⟩
    ·rw [decide_eq_false k5,cond_false]
     exact ⟨0,0,q1,e1,rfl,g1,fun h0 => ⟨h0,by rw [if_neg k1,if_neg (by omega)]; rfl,fun h => absurd h k1,fun h => by omega⟩⟩
 obtain ⟨sz,dv,q2,e2,hm,g2,c2⟩ := mid
 rw [hm,Option.bind_some]
 dsimp only
 obtain ⟨q3,e3,h3,g3,c3⟩ := wantT' (b := b) (l := l) (fu := fu) (mo := mo) (q := q2) (e := e2) g2 hb (c := 32) (by decide)
 rw [h3,Option.bind_some]
 dsimp only
 obtain ⟨s,q4,e4,h4,g4,c4⟩ := wordT' (b := b) (l := l) (fu := fu) (mo := mo) (q := q3) (e := e3) g3 hb
 rw [h4,Option.bind_some,lt_eq]
 dsimp only
 by_cases hlk : k = 3 ∨ k = 6
 ·rw [show (cond (k == 3) true (k == 6)) = true from by rcases hlk with h | h <;> simp [h],cond_true]
  obtain ⟨q5,e5,h5,g5,c5⟩ := wantT' (b := b) (l := l) (fu := fu) (mo := mo) (q := q4) (e := e4) g4 hb (c := 32) (by decide)
  rw [h5,Option.bind_some]
  dsimp only
  obtain ⟨s2,q6,e6,h6,g6,c6⟩ := wordT' (b := b) (l := l) (fu := fu) (mo := mo) (q := q5) (e := e5) g5 hb
  rw [h6,Option.bind_some]
  dsimp only
  obtain ⟨q7,e7,h7,g7,c7⟩ := wantT' (b := b) (l := l) (fu := fu) (mo := mo) (q := q6) (e := e6) g6 hb (c := 10) (by decide)
  rw [h7,Option.bind_some,app_ok (by rw [List.length_cons,List.length_nil]; omega),Option.bind_some]
  refine ⟨_,q7,e7,rfl,g7,fun h0 => ?_⟩
  obtain ⟨z6,d7⟩ := c7 h0
  obtain ⟨z5,d6⟩ := c6 z6
  obtain ⟨z4,d5⟩ := c5 z5
  obtain ⟨z3,d4⟩ := c4 z4
  obtain ⟨z2,d3⟩ := c3 z3
  obtain ⟨z1,d2,i2,i3⟩ := c2 z2
  obtain ⟨d1,i1⟩ := c1 z1
  refine ⟨?_,⟨hk,i1,i2,i3⟩,rfl,rfl,rfl,fun h => absurd hlk h⟩
  rw [d1,d2,d3,d4,d5,d6,d7]
  unfold lineS numsS sizeS linkS
  dsimp only
  rw [if_pos hlk]
  simp
 ·rw [show (cond (k == 3) true (k == 6)) = false from by
   rw [show (k == 3) = false from by simpa using fun h => hlk (.inl h),show (k == 6) = false from by simpa using fun h => hlk (.inr h)]; rfl,cond_false]
  obtain ⟨q7,e7,h7,g7,c7⟩ := wantT' (b := b) (l := l) (fu := fu) (mo := mo) (q := q4) (e := e4) g4 hb (c := 10) (by decide)
  rw [h7,Option.bind_some,app_ok (by rw [List.length_cons,List.length_nil]; omega),Option.bind_some]
  refine ⟨_,q7,e7,rfl,g7,fun h0 => ?_⟩
  obtain ⟨z4,d7⟩ := c7 h0
  obtain ⟨z3,d4⟩ := c4 z4
  obtain ⟨z2,d3⟩ := c3 z3
  obtain ⟨z1,d2,i2,i3⟩ := c2 z2
  obtain ⟨d1,i1⟩ := c1 z1
  refine ⟨?_,⟨hk,i1,i2,i3⟩,rfl,rfl,rfl,fun _ => rfl⟩
  rw [d1,d2,d3,d4,d7]
  unfold lineS numsS sizeS linkS
  dsimp only
  rw [if_neg hlk]
  simp
end
end Go.Proofs.YtebbaokcgnjfiaaDoor.F
