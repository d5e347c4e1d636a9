import Derived.Test.YtebbaokcgnjfiaaDoorLBBk5
set_option linter.unusedVariables false
set_option linter.unusedSimpArgs false
namespace Go.Proofs.YtebbaokcgnjfiaaDoor.F
open Go Go.RowKit Go.Proofs.YtebbaokcgnjfiaaDoor.K
section
variable {b : List UInt8} {l : List TApiEntry} {fu mo : Bool}
theorem num8F {q : Nat} (hb : b.length ≤ 100000000) {n : Int} (hn : inM n) {d : List UInt8} (hd : noDig 8 d) (h : b.drop q = 32 :: (dgs 8 n ++ d)) : ∃ q' : Nat,manifest_reader_number { f_text := { f_b := b,f_at := (q : Int),f_e := 0 },f_l := l,f_full := fu,f_more := mo } 8 = some (n,{ f_text := { f_b := b,f_at := (q' : Int),f_e := 0 },f_l := l,f_full := fu,f_more := mo }) ∧ q' ≤ b.length ∧ b.drop q' = d := numF 8 (.inl rfl) hb hn hd h
theorem num10F {q : Nat} (hb : b.length ≤ 100000000) {n : Int} (hn : inM n) {d : List UInt8} (hd : noDig 10 d) (h : b.drop q = 32 :: (dgs 10 n ++ d)) : ∃ q' : Nat,manifest_reader_number { f_text := { f_b := b,f_at := (q : Int),f_e := 0 },f_l := l,f_full := fu,f_more := mo } 10 = some (n,{ f_text := { f_b := b,f_at := (q' : Int),f_e := 0 },f_l := l,f_full := fu,f_more := mo }) ∧ q' ≤ b.length ∧ b.drop q' = d := numF 10 (.inr rfl) hb hn hd h
theorem wantF' {q : Nat} (hb : b.length ≤ 100000000) {c : UInt8} {d : List UInt8} (h : b.drop q = c :: d) : ∃ q' : Nat,manifest_text_want { f_text := { f_b := b,f_at := (q : Int),f_e := 0 },f_l := l,f_full := fu,f_more := mo } c = some { f_text := { f_b := b,f_at := (q' : Int),f_e := 0 },f_l := l,f_full := fu,f_more := mo } ∧ q' ≤ b.length ∧ b.drop q' = d := wantF hb h
theorem wordF' {q : Nat} (hq : q ≤ b.length) (hb : b.length ≤ 100000000) {s d : List UInt8} (hd : ends d) (h0 : s = [] → ∀ c r,d = c :: r → c = 32 ∨ c = 10) (h : b.drop q = Qt s ++ d) : ∃ q' : Nat,manifest_reader_word { f_text := { f_b := b,f_at := (q : Int),f_e := 0 },f_l := l,f_full := fu,f_more := mo } = some (s,{ f_text := { f_b := b,f_at := (q' : Int),f_e := 0 },f_l := l,f_full := fu,f_more := mo }) ∧ q' ≤ b.length ∧ b.drop q' = d := wordF hq hb hd h0 h
theorem pairF' {q : Nat} (hb : b.length ≤ 100000000) {c : UInt8} {d : List UInt8} (h : b.drop q = h2x c ++ d) : ∃ q' : Nat,manifest_reader_pair { f_text := { f_b := b,f_at := (q : Int),f_e := 0 },f_l := l,f_full := fu,f_more := mo } = some (c,{ f_text := { f_b := b,f_at := (q' : Int),f_e := 0 },f_l := l,f_full := fu,f_more := mo }) ∧ q' ≤ b.length ∧ b.drop q' = d := pairF hb h
theorem noDig32 (base : Nat) (d : List UInt8) : noDig base (32 :: d) := fun x r h => by cases h; exact .inl (by decide)
theorem ends32 (d : List UInt8) : ends (32 :: d) := fun x r h => by cases h; exact ⟨by decide,by decide⟩
theorem ends10 (d : List UInt8) : ends (10 :: d) := fun x r h => by cases h; exact ⟨by decide,by decide⟩
def t0 (x : TApiEntry) : TApiEntry := { Path := x.Path,Kind := x.Kind,Mode := if x.Kind = 6 then 0 else x.Mode,Uid := if x.Kind = 6 then 0 else x.Uid,Gid := if x.Kind = 6 then 0 else x.Gid,Time := if x.Kind = 6 then 0 else x.Time,Size := if x.Kind = 1 then x.Size else 0,Data := [],Target := if x.Kind = 3 ∨ x.Kind = 6 then x.Target else [],Dev := if x.Kind = 4 ∨ x.Kind = 5 then x.Dev else 0,Attrs := [] }
theorem entryF {q : Nat} (hb : b.length ≤ 100000000) (hl : l.length < 16384) {x : TApiEntry} (hr : RightP x) {d : List UInt8} (h : b.drop q = lineS x ++ d) : ∃ q' : Nat,manifest_reader_entry (rdr b (q : Int) 0 l fu mo) x.Kind = some (rdr b (q' : Int) 0 (l ++ [t0 x]) (x.Kind == 1) (x.Kind != 6)) ∧ q' ≤ b.length ∧ b.drop q' = d := by
 have h : b.drop q = letterK x.Kind :: (numsS x ++ (sizeS x ++ (32 :: (Qt x.Path ++ (linkS x ++ (10 :: d)))))) := by rw [h]; unfold lineS; simp
 obtain ⟨a1,a2,a3⟩ := drop_at h
 unfold manifest_reader_entry rdr
 dsimp only
 rw [show (((l.length : Int)) == 16384) = false from by simpa using by omega,cond_false,wI (by omega),show ((q : Int) + 1) = ((q + 1 : Nat) : Int) by omega]
 have hsz : noDig 10 (sizeS x ++ (32 :: (Qt x.Path ++ (linkS x ++ (10 :: d))))) := by
  unfold sizeS
  split
  ·exact noDig32 _ _
  ·split
   ·exact noDig32 _ _
   ·exact noDig32 _ _
 have head : ∃ q1 : Nat,(cond (x.Kind != 6)
   (Option.bind (manifest_reader_number ({ f_text := ({ f_b := b,f_at := ((q + 1 : Nat) : Int),f_e := 0 } : TManifestText),f_l := l,f_full := fu,f_more := mo } : TManifestReader) 8) fun number =>
   Option.bind (manifest_reader_number ({ f_text := number.2.f_text,f_l := l,f_full := number.2.f_full,f_more := number.2.f_more } : TManifestReader) 10) fun number1 =>
   Option.bind (manifest_reader_number ({ f_text := number1.2.f_text,f_l := l,f_full := number1.2.f_full,f_more := number1.2.f_more } : TManifestReader) 10) fun number2 =>
   Option.bind (manifest_reader_number ({ f_text := number2.2.f_text,f_l := l,f_full := number2.2.f_full,f_more := number2.2.f_more } : TManifestReader) 10) fun number3 =>
   some (number3.2.f_text.f_b,number3.2.f_text.f_at,number3.2.f_text.f_e,number3.2.f_full,number3.2.f_more,number.1,number1.1,number2.1,number3.1))
   (some (b,((q + 1 : Nat) : Int),(0 : Int),fu,mo,(0 : Int),(0 : Int),(0 : Int),(0 : Int)))) = some (b,(q1 : Int),0,fu,mo,(if x.Kind = 6 then 0 else x.Mode),(if x.Kind = 6 then 0 else x.Uid),(if x.Kind = 6 then 0 else x.Gid),(if x.Kind = 6 then 0 else x.Time)) ∧ q1 ≤ b.length ∧ b.drop q1 = sizeS x ++ (32 :: (Qt x.Path ++ (linkS x ++ (10 :: d)))) := by
  unfold numsS at a3
  by_cases h6 : x.Kind = 6
  ·rw [if_pos h6,List.nil_append] at a3
   rw [show (x.Kind != 6) = false from by simp [h6],cond_false,if_pos h6,if_pos h6,if_pos h6,if_pos h6]
   exact ⟨q + 1,rfl,a1,a3⟩
  ·rw [if_neg h6] at a3
   rw [show (x.Kind != 6) = true from by simpa using h6,cond_true,if_neg h6,if_neg h6,if_neg h6,if_neg h6]
   obtain ⟨i1,i2,i3,i4⟩ := hr.head h6
   simp only [List.cons_append,List.append_assoc] at a3
   obtain ⟨q1,h1,g1,c1⟩ := num8F (b := b) (l := l) (fu := fu) (mo := mo) (q := q + 1) hb i1 (noDig32 _ _) a3
   obtain ⟨q2,h2,g2,c2⟩ := num10F (b := b) (l := l) (fu := fu) (mo := mo) (q := q1) hb i2 (noDig32 _ _) c1
   obtain ⟨q3,h3,g3,c3⟩ := num10F (b := b) (l := l) (fu := fu) (mo := mo) (q := q2) hb i3 (noDig32 _ _) c2
   obtain ⟨q4,h4,g4,c4⟩ := num10F (b := b) (l := l) (fu := fu) (mo := mo) (q := q3) hb i4 hsz c3
   rw [h1,Option.bind_some]
   dsimp only
   rw [h2,Option.bind_some]
   dsimp only
   rw [h3,Option.bind_some]
   dsimp only
   rw [h4,Option.bind_some]
   exact ⟨q4,rfl,g4,c4⟩
 obtain ⟨q1,hh,g1,c1⟩ := head
 rw [hh,Option.bind_some]
 dsimp only
 have mid : ∃ q2 : Nat,(cond (x.Kind == 1)
   (Option.bind (manifest_reader_number ({ f_text := ({ f_b := b,f_at := (q1 : Int),f_e := 0 } : TManifestText),f_l := l,f_full := fu,f_more := mo } : TManifestReader) 10) fun number4 =>
   some (number4.2.f_text.f_b,number4.2.f_text.f_at,number4.2.f_text.f_e,number4.2.f_full,number4.2.f_more,number4.1,(0 : Int)))
   (cond (x.Kind == 4)
   (Option.bind (manifest_reader_number ({ f_text := ({ f_b := b,f_at := (q1 : Int),f_e := 0 } : TManifestText),f_l := l,f_full := fu,f_more := mo } : TManifestReader) 10) fun number5 =>
   some (number5.2.f_text.f_b,number5.2.f_text.f_at,number5.2.f_text.f_e,number5.2.f_full,number5.2.f_more,(0 : Int),number5.1))
   (cond (x.Kind == 5)
   (Option.bind (manifest_reader_number ({ f_text := ({ f_b := b,f_at := (q1 : Int),f_e := 0 } : TManifestText),f_l := l,f_full := fu,f_more := mo } : TManifestReader) 10) fun number6 =>
   some (number6.2.f_text.f_b,number6.2.f_text.f_at,number6.2.f_text.f_e,number6.2.f_full,number6.2.f_more,(0 : Int),number6.1))
   (some (b,(q1 : Int),(0 : Int),fu,mo,(0 : Int),(0 : Int)))))) = some (b,(q2 : Int),0,fu,mo,(if x.Kind = 1 then x.Size else 0),(if x.Kind = 4 ∨ x.Kind = 5 then x.Dev else 0)) ∧ q2 ≤ b.length ∧ b.drop q2 = 32 :: (Qt x.Path ++ (linkS x ++ (10 :: d))) := by
  unfold sizeS at c1
  rw [kb,kb,kb]
  by_cases k1 : x.Kind = 1
  ·rw [if_pos k1] at c1
   obtain ⟨q2,h2,g2,c2⟩ := num10F (b := b) (l := l) (fu := fu) (mo := mo) (q := q1) hb (hr.size k1) (noDig32 _ _) c1
   rw [decide_eq_true k1,cond_true,h2,Option.bind_some,if_pos k1,if_neg (by omega)]
   exact ⟨q2,rfl,g2,c2⟩
  ·rw [if_neg k1] at c1
   rw [decide_eq_false k1,cond_false,if_neg k1]
   by_cases k45 : x.Kind = 4 ∨ x.Kind = 5
   ·rw [if_pos k45] at c1
    obtain ⟨q2,h2,g2,c2⟩ := num10F (b := b) (l := l) (fu := fu) (mo := mo) (q := q1) hb (hr.dev k45) (noDig32 _ _) c1
    rw [h2,if_pos k45]
    by_cases k4 : x.Kind = 4
    ·rw [decide_eq_true k4,cond_true,Option.bind_some]; exact ⟨q2,rfl,g2,c2⟩
    ·rw [decide_eq_false k4,cond_false,decide_eq_true (show x.Kind = 5 by omega),cond_true,Option.bind_some]; exact ⟨q2,rfl,g2,c2⟩
   ·rw [if_neg k45] at c1
    rw [decide_eq_false (show ¬ x.Kind = 4 by omega),cond_false,decide_eq_false (show ¬ x.Kind = 5 by omega),cond_false,if_neg k45]
    exact ⟨q1,rfl,g1,c1⟩
 obtain ⟨q2,hm,g2,c2⟩ := mid
 rw [hm,Option.bind_some]
 dsimp only
 obtain ⟨q3,h3,g3,c3⟩ := wantF' (b := b) (l := l) (fu := fu) (mo := mo) (q := q2) hb c2
 rw [h3,Option.bind_some]
 dsimp only
 by_cases hlk : x.Kind = 3 ∨ x.Kind = 6
 ·unfold linkS at c3
  rw [if_pos hlk,List.cons_append] at c3
  obtain ⟨q4,h4,g4,c4⟩ := wordF' (b := b) (l := l) (fu := fu) (mo := mo) (q := q3) g3 hb (ends32 _) (fun _ c r e => by cases e; exact .inl rfl) c3
  rw [h4,Option.bind_some,lt_eq]
  dsimp only
  rw [show (cond (x.Kind == 3) true (x.Kind == 6)) = true from by rcases hlk with h | h <;> simp [h],cond_true]
  obtain ⟨q5,h5,g5,c5⟩ := wantF' (b := b) (l := l) (fu := fu) (mo := mo) (q := q4) hb c4
  rw [h5,Option.bind_some]
  dsimp only
  obtain ⟨q6,h6,g6,c6⟩ := wordF' (b := b) (l := l) (fu := fu) (mo := mo) (q := q5) g5 hb (ends10 _) (fun _ c r e => by cases e; exact .inr rfl) c5
  rw [h6,Option.bind_some]
  dsimp only
  obtain ⟨q7,h7,g7,c7⟩ := wantF' (b := b) (l := l) (fu := fu) (mo := mo) (q := q6) hb c6
  rw [h7,Option.bind_some,app_ok (by rw [List.length_cons,List.length_nil]; omega),Option.bind_some]
  refine ⟨q7,?_,g7,c7⟩
  unfold t0
  rw [if_pos hlk]
 ·unfold linkS at c3
  rw [if_neg hlk,List.nil_append] at c3
  obtain ⟨q4,h4,g4,c4⟩ := wordF' (b := b) (l := l) (fu := fu) (mo := mo) (q := q3) g3 hb (ends10 _) (fun _ c r e => by cases e; exact .inr rfl) c3
  rw [h4,Option.bind_some,lt_eq]
  dsimp only
  rw [show (cond (x.Kind == 3) true (x.Kind == 6)) = false from by
   rw [show (x.Kind == 3) = false from by simpa using fun h => hlk (.inl h),show (x.Kind == 6) = false from by simpa using fun h => hlk (.inr h)]; rfl,cond_false]
  obtain ⟨q7,h7,g7,c7⟩ := wantF' (b := b) (l := l) (fu := fu) (mo := mo) (q := q4) hb c4
  rw [h7,Option.bind_some,app_ok (by rw [List.length_cons,List.length_nil]; omega),Option.bind_some]
  refine ⟨q7,?_,g7,c7⟩
  unfold t0
  rw [if_neg hlk]
theorem h2x_ne {q : Nat} {c : UInt8} {d : List UInt8} (h : b.drop q = h2x c ++ d) : q < b.length ∧ byteS b q ≠ 10 := by
 have h : b.drop q = dc (c.toNat / 16) :: dc (c.toNat % 16) :: d := h
 obtain ⟨a1,a2,a3⟩ := drop_at h
 have := c.toNat_lt
 exact ⟨a1,by rw [a2]; exact (dc_ne _ (by omega)).2⟩
theorem dataLF (hb : b.length ≤ 100000000) (r0 : TManifestReader) (hr : r0.f_l = l) (x : TApiEntry) (r : List UInt8) : ∀ (d : List UInt8) (n q : Nat) (D : List UInt8),n + d.length ≤ 32 → (n = 0 → d ≠ []) → q ≤ b.length → D.length + d.length ≤ 1000000000 → b.drop q = d.flatMap h2x ++ 10 :: r →
  ∃ q' : Nat,loopO (fun s => manifest_reader_data_l1 r0 x s.1 s.2.1 s.2.2.1 s.2.2.2.1 s.2.2.2.2.1 s.2.2.2.2.2.1 s.2.2.2.2.2.2) (b,(q : Int),0,D,fu,mo,n) = some (b,(q' : Int),0,x.Path,D ++ d,x.Target,x.Attrs,fu,mo,n + d.length) ∧ q' ≤ b.length ∧ b.drop q' = 10 :: r := by
 subst hr
 intro d
 induction d with
 | nil =>
  intro n q D h1 h2 h3 h4 h5
  have hn0 : n ≠ 0 := fun h => h2 h rfl
  obtain ⟨_,h10,_⟩ := drop_at (by simpa using h5 : b.drop q = 10 :: r)
  refine ⟨q,loop_end ?_,h3,by simpa using h5⟩
  show manifest_reader_data_l1 r0 x b (q : Int) 0 D fu mo n = _
  unfold manifest_reader_data_l1
  rw [show (((n : Int)) == 0) = false from by simpa using hn0,cond_false,peek_ok' h3,Option.bind_some,n10,h10,List.append_nil]
  cases decide ((n : Int) < 32) <;> rfl
 | cons c d ih =>
  intro n q D h1 h2 h3 h4 h5
  rw [List.length_cons] at h1 h4
  rw [List.flatMap_cons,List.append_assoc] at h5
  obtain ⟨a1,a2⟩ := h2x_ne h5
  obtain ⟨q1,p1,p2,p3⟩ := pairF' (b := b) (l := r0.f_l) (fu := fu) (mo := mo) hb h5
  have hs : manifest_reader_data_l1 r0 x b (q : Int) 0 D fu mo n = some (.inl (b,(q1 : Int),0,D ++ [c],fu,mo,n + 1)) := by
   unfold manifest_reader_data_l1
   rw [decide_eq_true (show (n : Int) < 32 by omega),cond_true,p1,Option.bind_some,app_ok (by rw [List.length_cons,List.length_nil]; omega),Option.bind_some,peek_ok' h3,Option.bind_some,n10,show (byteS b q != 10) = true from by simpa using a2]
   cases ((n : Int) == 0) <;> rfl
  by_cases hd : d = []
  ·subst hd
   have p3 : b.drop q1 = 10 :: r := by simpa using p3
   obtain ⟨_,h10,_⟩ := drop_at p3
   refine ⟨q1,?_,p2,p3⟩
   rw [loop_next (s := (b,(q : Int),(0 : Int),D,fu,mo,n)) hs]
   refine loop_end ?_
   show manifest_reader_data_l1 r0 x b (q1 : Int) 0 (D ++ [c]) fu mo (n + 1) = _
   unfold manifest_reader_data_l1
   rw [show ((((n + 1 : Nat) : Int)) == 0) = false from by simpa using by omega,cond_false,peek_ok' p2,Option.bind_some,n10,h10]
   cases decide (((n + 1 : Nat) : Int) < 32) <;> rfl
  ·obtain ⟨q',i1,i2,i3⟩ := ih (n + 1) q1 (D ++ [c]) (by omega) (fun _ => hd) p2 (by rw [List.length_append,List.length_cons,List.length_nil]; omega) p3
   refine ⟨q',?_,i2,i3⟩
   rw [loop_next (s := (b,(q : Int),(0 : Int),D,fu,mo,n)) hs,i1,List.append_assoc,List.length_cons]
   have : n + 1 + d.length = n + (d.length + 1) := by omega
   rw [this]
   rfl
theorem dataF {q : Nat} (hb : b.length ≤ 100000000) {l0 : List TApiEntry} {x : TApiEntry} (hl : l0.length ≤ 100000) (hD : x.Data.length ≤ 100000000) {d r : List UInt8} (hd : d ≠ []) (h32 : d.length ≤ 32) (h : b.drop q = dtS d ++ r) : ∃ q' : Nat,manifest_reader_data (rdr b (q : Int) 0 (l0 ++ [x]) fu mo) = some (rdr b (q' : Int) 0 (l0 ++ [addData x d]) (decide (d.length = 32)) mo) ∧ q' ≤ b.length ∧ b.drop q' = r := by
 rw [dtS_one hd h32] at h
 have h : b.drop q = 61 :: 32 :: (d.flatMap h2x ++ 10 :: r) := by rw [h]; simp
 obtain ⟨a1,a2,a3⟩ := drop_at h
 unfold manifest_reader_data rdr
 dsimp only
 rw [wI (by omega),show ((q : Int) + 1) = ((q + 1 : Nat) : Int) by omega]
 obtain ⟨q1,h1,g1,c1⟩ := wantF' (b := b) (l := l0 ++ [x]) (fu := fu) (mo := mo) (q := q + 1) hb a3
 have hlen : (l0 ++ [x]).length = l0.length + 1 := by simp
 have hix : idx (l0 ++ [x]) (IntKind.i64.wrap (((l0 ++ [x]).length : Int) - 1)) = some x := by
  rw [hlen,wI (by omega),show (((l0.length + 1 : Nat) : Int) - 1) = (l0.length : Int) by omega]
  exact idx_ok (by simp)
 rw [h1,Option.bind_some]
 dsimp only
 rw [hix,Option.bind_some]
 obtain ⟨q2,h2,g2,c2⟩ := dataLF (b := b) (l := l0 ++ [x]) (fu := fu) (mo := mo) hb ({ f_text := { f_b := b,f_at := (q : Int),f_e := 0 },f_l := l0 ++ [x],f_full := fu,f_more := mo } : TManifestReader) rfl x r d 0 q1 x.Data (by omega) (fun _ => hd) g1 (by omega) c1
 rw [h2,Option.bind_some]
 dsimp only
 obtain ⟨q3,h3,g3,c3⟩ := wantF' (b := b) (l := l0 ++ [x]) (fu := fu) (mo := mo) (q := q2) hb c2
 rw [h3,Option.bind_some,lt_eq,hlen,wI (by omega),show (((l0.length + 1 : Nat) : Int) - 1).toNat = l0.length by omega,Nat.zero_add,List.set_append_right _ _ (Nat.le_refl _),Nat.sub_self]
 refine ⟨q3,?_,g3,c3⟩
 have : (((d.length : Int)) == 32) = decide (d.length = 32) := by rw [Bool.eq_iff_iff]; simp; omega
 rw [this]
 rfl
theorem attrLF (hb : b.length ≤ 100000000) (r0 : TManifestReader) (hr : r0.f_l = l) (r : List UInt8) : ∀ (v : List UInt8) (q : Nat) (V : List UInt8) (first : Bool),(first = true → v ≠ []) → q ≤ b.length → V.length + v.length ≤ 1000000000 → b.drop q = v.flatMap h2x ++ 10 :: r →
  ∃ q' : Nat,loopO (fun s => manifest_reader_attr_l1 r0 s.1 s.2.1 s.2.2.1 s.2.2.2.1 s.2.2.2.2.1 s.2.2.2.2.2.1 s.2.2.2.2.2.2) (b,(q : Int),0,fu,mo,V,first) = some (b,(q' : Int),0,fu,mo,V ++ v) ∧ q' ≤ b.length ∧ b.drop q' = 10 :: r := by
 subst hr
 intro v
 induction v with
 | nil =>
  intro q V first h1 h2 h3 h4
  have hf : first = false := by cases first; rfl; exact absurd rfl (h1 rfl)
  obtain ⟨_,h10,_⟩ := drop_at (by simpa using h4 : b.drop q = 10 :: r)
  refine ⟨q,loop_end ?_,h2,by simpa using h4⟩
  show manifest_reader_attr_l1 r0 b (q : Int) 0 fu mo V first = _
  unfold manifest_reader_attr_l1
  rw [show ((0 : Int) == 0) = true from rfl,cond_true,hf,cond_false,peek_ok' h2,Option.bind_some,n10,h10,List.append_nil]
  rfl
 | cons c v ih =>
  intro q V first h1 h2 h3 h4
  rw [List.length_cons] at h3
  rw [List.flatMap_cons,List.append_assoc] at h4
  obtain ⟨a1,a2⟩ := h2x_ne h4
  obtain ⟨q1,p1,p2,p3⟩ := pairF' (b := b) (l := r0.f_l) (fu := fu) (mo := mo) hb h4
  have hs : manifest_reader_attr_l1 r0 b (q : Int) 0 fu mo V first = some (.inl (b,(q1 : Int),0,fu,mo,V ++ [c],false)) := by
   unfold manifest_reader_attr_l1
   rw [show ((0 : Int) == 0) = true from rfl,cond_true,peek_ok' h2,Option.bind_some,n10,show (byteS b q != 10) = true from by simpa using a2,p1,Option.bind_some,app_ok (by rw [List.length_cons,List.length_nil]; omega),Option.bind_some]
   cases first <;> rfl
  obtain ⟨q',i1,i2,i3⟩ := ih q1 (V ++ [c]) false (fun h => by cases h) p2 (by rw [List.length_append,List.length_cons,List.length_nil]; omega) p3
  exact ⟨q',by rw [loop_next (s := (b,(q : Int),(0 : Int),fu,mo,V,first)) hs,i1,List.append_assoc]; rfl,i2,i3⟩
theorem attrF {q : Nat} (hb : b.length ≤ 100000000) {l0 : List TApiEntry} {x : TApiEntry} (hl : l0.length ≤ 100000) (hA : x.Attrs.length ≤ 100000000) {a : TApiAttr} (hv : a.Value.length ≤ 100000000) {r : List UInt8} (h : b.drop q = attrS a ++ r) : ∃ q' : Nat,manifest_reader_attr (rdr b (q : Int) 0 (l0 ++ [x]) fu mo) = some (rdr b (q' : Int) 0 (l0 ++ [addAttr x a]) false mo) ∧ q' ≤ b.length ∧ b.drop q' = r := by
 have h : b.drop q = 64 :: 32 :: (Qt a.Name ++ ((if a.Value = [] then [] else 32 :: a.Value.flatMap h2x) ++ 10 :: r)) := by rw [h]; unfold attrS; simp
 obtain ⟨a1,a2,a3⟩ := drop_at h
 unfold manifest_reader_attr rdr
 dsimp only
 rw [wI (x := (q : Int) + 1) (by omega),show ((q : Int) + 1) = ((q + 1 : Nat) : Int) by omega]
 obtain ⟨q1,h1,g1,c1⟩ := wantF' (b := b) (l := l0 ++ [x]) (fu := fu) (mo := mo) (q := q + 1) hb a3
 have hlen : (l0 ++ [x]).length = l0.length + 1 := by simp
 have hix : idx (l0 ++ [x]) (IntKind.i64.wrap (((l0 ++ [x]).length : Int) - 1)) = some x := by
  rw [hlen,wI (by omega),show (((l0.length + 1 : Nat) : Int) - 1) = (l0.length : Int) by omega]
  exact idx_ok (by simp)
 have hset : ∀ y,(l0 ++ [x]).set (IntKind.i64.wrap (((l0 ++ [x]).length : Int) - 1)).toNat y = l0 ++ [y] := by
  intro y
  rw [hlen,wI (by omega),show (((l0.length + 1 : Nat) : Int) - 1).toNat = l0.length by omega,List.set_append_right _ _ (Nat.le_refl _),Nat.sub_self]
  rfl
 have hap : ∀ a : TApiAttr,app x.Attrs [a] = some (x.Attrs ++ [a]) := fun a => app_ok (by rw [List.length_cons,List.length_nil]; omega)
 rw [h1,Option.bind_some]
 dsimp only
 by_cases hv0 : a.Value = []
 ·rw [if_pos hv0,List.nil_append] at c1
  obtain ⟨q2,h2,g2,c2⟩ := wordF' (b := b) (l := l0 ++ [x]) (fu := fu) (mo := mo) (q := q1) g1 hb (ends10 _) (fun _ c r e => by cases e; exact .inr rfl) c1
  obtain ⟨_,b10,_⟩ := drop_at c2
  rw [h2,Option.bind_some]
  dsimp only
  rw [peek_ok' g2,Option.bind_some,toNat32,b10,show ((10 : UInt8) == 32) = false from rfl,cond_false]
  obtain ⟨q4,h4,g4,c4⟩ := wantF' (b := b) (l := l0 ++ [x]) (fu := fu) (mo := mo) (q := q2) hb c2
  rw [h4,Option.bind_some,hix,Option.bind_some,hap,Option.bind_some,lt_eq,hset]
  refine ⟨q4,?_,g4,c4⟩
  unfold addAttr
  rw [← hv0]
 ·rw [if_neg hv0,List.cons_append] at c1
  obtain ⟨q2,h2,g2,c2⟩ := wordF' (b := b) (l := l0 ++ [x]) (fu := fu) (mo := mo) (q := q1) g1 hb (ends32 _) (fun _ c r e => by cases e; exact .inl rfl) c1
  obtain ⟨e1,b32,e3⟩ := drop_at c2
  rw [h2,Option.bind_some]
  dsimp only
  rw [peek_ok' g2,Option.bind_some,toNat32,b32,show ((32 : UInt8) == 32) = true from rfl,cond_true,wI (x := (q2 : Int) + 1) (by omega),show ((q2 : Int) + 1) = ((q2 + 1 : Nat) : Int) by omega]
  obtain ⟨q3,h3,g3,c3⟩ := attrLF (b := b) (l := l0 ++ [x]) (fu := fu) (mo := mo) hb ({ f_text := { f_b := b,f_at := (q : Int),f_e := 0 },f_l := l0 ++ [x],f_full := fu,f_more := mo } : TManifestReader) rfl r a.Value (q2 + 1) [] true (fun _ => hv0) e1 (by simp; omega) e3
  rw [h3,Option.bind_some]
  dsimp only
  obtain ⟨q4,h4,g4,c4⟩ := wantF' (b := b) (l := l0 ++ [x]) (fu := fu) (mo := mo) (q := q3) hb c3
  rw [h4,Option.bind_some,hix,Option.bind_some,hap,Option.bind_some,lt_eq,hset,List.nil_append]
  exact ⟨q4,rfl,g4,c4⟩
end
end Go.Proofs.YtebbaokcgnjfiaaDoor.F
