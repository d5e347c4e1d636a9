import Derived.Test.YtebbaokcgnjfiaaDoorLBBk2
set_option linter.unusedVariables false
set_option linter.unusedSimpArgs false
namespace Go.Proofs.YtebbaokcgnjfiaaDoor.F
open Go Go.RowKit Go.Proofs.YtebbaokcgnjfiaaDoor.K
section
variable {b : List UInt8} {l : List TApiEntry} {fu mo : Bool}
theorem pairT' {q : Nat} (hq : q ≤ b.length) (hb : b.length ≤ 100000000) : ∃ (c : UInt8) (q' : Nat) (e' : Int),manifest_reader_pair { f_text := { f_b := b,f_at := (q : Int),f_e := 0 },f_l := l,f_full := fu,f_more := mo } = some (c,{ f_text := { f_b := b,f_at := (q' : Int),f_e := e' },f_l := l,f_full := fu,f_more := mo }) ∧ q' ≤ b.length ∧ (e' = 0 → b.drop q = h2x c ++ b.drop q') := pairT hq hb
theorem peek_ok' {q : Nat} (hq : q ≤ b.length) : manifest_text_peek { f_text := { f_b := b,f_at := (q : Int),f_e := 0 },f_l := l,f_full := fu,f_more := mo } = some (byteS b q) := peek_ok hq
theorem peek_e' {q : Nat} {e : Int} (he : e ≠ 0) : manifest_text_peek { f_text := { f_b := b,f_at := (q : Int),f_e := e },f_l := l,f_full := fu,f_more := mo } = some 0 := peek_e he
theorem lt32 {n k : Nat} (h : 32 - n = k + 1) : n < 32 ∧ n + 1 ≤ 32 ∧ (n : Int) < 32 := by omega
theorem n10 (c : UInt8) : ((c.toNat : Int) != 10) = (c != 10) := nat_ne c 10
theorem dataLT (hb : b.length ≤ 100000000) (r0 : TManifestReader) (hr : r0.f_l = l) (x : TApiEntry) : ∀ k (n q : Nat) (e : Int) (D : List UInt8),32 - n = k → n ≤ 32 → q ≤ b.length → D.length + 32 ≤ 1000000000 + n →
  ∃ (d : List UInt8) (q' : Nat) (e' : Int),loopO (fun s => manifest_reader_data_l1 r0 x s.1 s.2.1 s.2.2.1 s.2.2.2.1 s.2.2.2.2.1 s.2.2.2.2.2.1 s.2.2.2.2.2.2) (b,(q : Int),e,D,fu,mo,n) = some (b,(q' : Int),e',x.Path,D ++ d,x.Target,x.Attrs,fu,mo,n + d.length) ∧ q' ≤ b.length ∧ n + d.length ≤ 32 ∧
   (e' = 0 → e = 0 ∧ b.drop q = d.flatMap h2x ++ b.drop q' ∧ (n = 0 → d ≠ [])) := by
 subst hr
 intro k
 induction k with
 | zero =>
  intro n q e D h1 h2 h3 h4
  have hn : n = 32 := by omega
  refine ⟨[],q,e,loop_end ?_,h3,by simp; omega,fun h => ⟨h,rfl,fun h => by omega⟩⟩
  show manifest_reader_data_l1 r0 x b (q : Int) e D fu mo n = _
  unfold manifest_reader_data_l1
  rw [decide_eq_false (by omega),cond_false,List.append_nil]
  rfl
 | succ k ih =>
  intro n q e D h1 h2 h3 h4
  have stop : e ≠ 0 → ∃ (d : List UInt8) (q' : Nat) (e' : Int),loopO (fun s => manifest_reader_data_l1 r0 x s.1 s.2.1 s.2.2.1 s.2.2.2.1 s.2.2.2.2.1 s.2.2.2.2.2.1 s.2.2.2.2.2.2) (b,(q : Int),e,D,fu,mo,n) = some (b,(q' : Int),e',x.Path,D ++ d,x.Target,x.Attrs,fu,mo,n + d.length) ∧ q' ≤ b.length ∧ n + d.length ≤ 32 ∧ (e' = 0 → e = 0 ∧ b.drop q = d.flatMap h2x ++ b.drop q' ∧ (n = 0 → d ≠ [])) := by
   intro he
   refine ⟨[],q,e,loop_end ?_,h3,by simp; exact h2,fun h => absurd h he⟩
   show manifest_reader_data_l1 r0 x b (q : Int) e D fu mo n = _
   unfold manifest_reader_data_l1
   rw [decide_eq_true (lt32 h1).2.2,cond_true,show (e == 0) = false from by simpa using he,peek_e' he,Option.bind_some,List.append_nil]
   cases ((n : Int) == 0) <;> rfl
  by_cases he : e = 0
  ·subst he
   obtain ⟨c,q1,e1,p1,p2,p3⟩ := pairT' (b := b) (l := r0.f_l) (fu := fu) (mo := mo) h3 hb
   have go : manifest_reader_data_l1 r0 x b (q : Int) 0 D fu mo n = some (.inl (b,(q1 : Int),e1,D ++ [c],fu,mo,n + 1)) → ∃ (d : List UInt8) (q' : Nat) (e' : Int),loopO (fun s => manifest_reader_data_l1 r0 x s.1 s.2.1 s.2.2.1 s.2.2.2.1 s.2.2.2.2.1 s.2.2.2.2.2.1 s.2.2.2.2.2.2) (b,(q : Int),0,D,fu,mo,n) = some (b,(q' : Int),e',x.Path,D ++ d,x.Target,x.Attrs,fu,mo,n + d.length) ∧ q' ≤ b.length ∧ n + d.length ≤ 32 ∧ (e' = 0 → (0 : Int) = 0 ∧ b.drop q = d.flatMap h2x ++ b.drop q' ∧ (n = 0 → d ≠ [])) := by
    intro hs
    obtain ⟨d,q',e',i1,i2,i3,i4⟩ := ih (n + 1) q1 e1 (D ++ [c]) (sub1' h1) (lt32 h1).2.1 p2 (by rw [List.length_append,List.length_cons,List.length_nil]; omega)
    refine ⟨c :: d,q',e',?_,i2,by rw [List.length_cons]; omega,fun h0 => ?_⟩
    ·rw [loop_next (s := (b,(q : Int),(0 : Int),D,fu,mo,n)) hs,i1,List.append_assoc,List.length_cons]
     have : n + 1 + d.length = n + (d.length + 1) := by omega
     rw [this]
     rfl
    ·obtain ⟨z,j1,_⟩ := i4 h0
     refine ⟨rfl,?_,fun _ => by simp⟩
     rw [p3 z,j1,List.flatMap_cons,List.append_assoc]
   have hap : app D [c] = some (D ++ [c]) := app_ok (by rw [List.length_cons,List.length_nil]; omega)
   by_cases hn0 : n = 0
   ·refine go ?_
    unfold manifest_reader_data_l1
    rw [decide_eq_true (lt32 h1).2.2,cond_true,show (((n : Int)) == 0) = true from by simp [hn0],cond_true,show ((0 : Int) == 0) = true from rfl,cond_true,p1,Option.bind_some,hap,Option.bind_some]
   ·by_cases h10 : byteS b q = 10
    ·refine ⟨[],q,0,loop_end ?_,h3,by simp; exact h2,fun h => ⟨rfl,rfl,fun h => absurd h hn0⟩⟩
     show manifest_reader_data_l1 r0 x b (q : Int) 0 D fu mo n = _
     unfold manifest_reader_data_l1
     rw [decide_eq_true (lt32 h1).2.2,cond_true,show (((n : Int)) == 0) = false from by simpa using hn0,cond_false,peek_ok' h3,Option.bind_some,n10,show (byteS b q != 10) = false from by simp [h10],List.append_nil]
     rfl
    ·refine go ?_
     unfold manifest_reader_data_l1
     rw [decide_eq_true (lt32 h1).2.2,cond_true,show (((n : Int)) == 0) = false from by simpa using hn0,cond_false,peek_ok' h3,Option.bind_some,n10,show (byteS b q != 10) = true from by simpa using h10,cond_true,show ((0 : Int) == 0) = true from rfl,cond_true,p1,Option.bind_some,hap,Option.bind_some]
  ·exact stop he
def addData (x : TApiEntry) (d : List UInt8) : TApiEntry := { x with Data := x.Data ++ d }
def addAttr (x : TApiEntry) (a : TApiAttr) : TApiEntry := { x with Attrs := x.Attrs ++ [a] }
theorem dataT {q : Nat} (hq : q < b.length) (hb : b.length ≤ 100000000) {l0 : List TApiEntry} {x : TApiEntry} (hl : l0.length ≤ 100000) (hD : x.Data.length ≤ 100000000) : ∃ (d : List UInt8) (q' : Nat) (e' : Int),manifest_reader_data (rdr b (q : Int) 0 (l0 ++ [x]) fu mo) = some (rdr b (q' : Int) e' (l0 ++ [addData x d]) (decide (d.length = 32)) mo) ∧ q' ≤ b.length ∧
  (e' = 0 → b.drop (q + 1) = 32 :: (d.flatMap h2x ++ 10 :: b.drop q') ∧ d ≠ [] ∧ d.length ≤ 32) := by
 unfold manifest_reader_data rdr
 dsimp only
 rw [wI (by omega),show ((q : Int) + 1) = ((q + 1 : Nat) : Int) by omega]
 obtain ⟨q1,e1,h1,g1,c1⟩ := wantT' (b := b) (l := l0 ++ [x]) (fu := fu) (mo := mo) (q := q + 1) (e := 0) hq hb (c := 32) (by decide)
 have hlen : (l0 ++ [x]).length = l0.length + 1 := by simp
 have hix : idx (l0 ++ [x]) (IntKind.i64.wrap (((l0 ++ [x]).length : Int) - 1)) = some x := by
  rw [hlen,wI (by omega),show (((l0.length + 1 : Nat) : Int) - 1) = (l0.length : Int) by omega]
  exact idx_ok (by simp)
 rw [h1,Option.bind_some]
 dsimp only
 rw [hix,Option.bind_some]
 obtain ⟨d,q2,e2,h2,g2,n2,c2⟩ := dataLT (b := b) (l := l0 ++ [x]) (fu := fu) (mo := mo) hb ({ f_text := { f_b := b,f_at := (q : Int),f_e := 0 },f_l := l0 ++ [x],f_full := fu,f_more := mo } : TManifestReader) rfl x 32 0 q1 e1 x.Data rfl (by omega) g1 (by omega)
 rw [h2,Option.bind_some]
 dsimp only
 obtain ⟨q3,e3,h3,g3,c3⟩ := wantT' (b := b) (l := l0 ++ [x]) (fu := fu) (mo := mo) (q := q2) (e := e2) g2 hb (c := 10) (by decide)
 rw [h3,Option.bind_some,lt_eq,hlen,wI (by omega),show (((l0.length + 1 : Nat) : Int) - 1).toNat = l0.length by omega,Nat.zero_add,List.set_append_right _ _ (Nat.le_refl _),Nat.sub_self]
 refine ⟨d,q3,e3,?_,g3,fun h0 => ?_⟩
 ·have : (((d.length : Int)) == 32) = decide (d.length = 32) := by rw [Bool.eq_iff_iff]; simp; omega
  rw [this]
  rfl
 ·obtain ⟨z2,d3⟩ := c3 h0
  obtain ⟨z1,d2,hne⟩ := c2 z2
  obtain ⟨_,d1⟩ := c1 z1
  rw [d1,d2,d3]
  exact ⟨rfl,hne rfl,by omega⟩
theorem attrLT (hb : b.length ≤ 100000000) (r0 : TManifestReader) (hr : r0.f_l = l) : ∀ k (q : Nat) (e : Int) (V : List UInt8) (first : Bool),b.length - q ≤ k → q ≤ b.length → V.length ≤ q →
  ∃ (v : List UInt8) (q' : Nat) (e' : Int),loopO (fun s => manifest_reader_attr_l1 r0 s.1 s.2.1 s.2.2.1 s.2.2.2.1 s.2.2.2.2.1 s.2.2.2.2.2.1 s.2.2.2.2.2.2) (b,(q : Int),e,fu,mo,V,first) = some (b,(q' : Int),e',fu,mo,V ++ v) ∧ q' ≤ b.length ∧
   (e' = 0 → e = 0 ∧ b.drop q = v.flatMap h2x ++ b.drop q' ∧ (first = true → v ≠ [])) := by
 subst hr
 have stop : ∀ (q : Nat) (e : Int) (V : List UInt8) (first : Bool),e ≠ 0 → loopO (fun s => manifest_reader_attr_l1 r0 s.1 s.2.1 s.2.2.1 s.2.2.2.1 s.2.2.2.2.1 s.2.2.2.2.2.1 s.2.2.2.2.2.2) (b,(q : Int),e,fu,mo,V,first) = some (b,(q : Int),e,fu,mo,V) := by
  intro q e V first he
  refine loop_end ?_
  show manifest_reader_attr_l1 r0 b (q : Int) e fu mo V first = _
  unfold manifest_reader_attr_l1
  rw [show (e == 0) = false from by simpa using he]
  rfl
 intro k
 induction k with
 | zero =>
  intro q e V first h1 h2 h3
  by_cases he : e = 0
  ·subst he
   obtain ⟨c,q1,e1,p1,p2,p3⟩ := pairT' (b := b) (l := r0.f_l) (fu := fu) (mo := mo) h2 hb
   have hq : b.length ≤ q := by omega
   have he1 : e1 ≠ 0 := by
    intro h0
    have := p3 h0
    rw [List.drop_eq_nil_of_le hq] at this
    cases this
   have hs : manifest_reader_attr_l1 r0 b (q : Int) 0 fu mo V first = some (.inl (b,(q1 : Int),e1,fu,mo,V ++ [c],false)) := by
    unfold manifest_reader_attr_l1
    rw [show ((0 : Int) == 0) = true from rfl,cond_true,peek_ok' h2,Option.bind_some,n10,byteS_ge hq,p1,Option.bind_some,app_ok (by rw [List.length_cons,List.length_nil]; omega),Option.bind_some]
    cases first <;> rfl
   refine ⟨[c],q1,e1,?_,p2,fun h0 => absurd h0 he1⟩
   rw [loop_next (s := (b,(q : Int),(0 : Int),fu,mo,V,first)) hs,stop _ _ _ _ he1]
  ·exact ⟨[],q,e,by rw [stop _ _ _ _ he,List.append_nil],h2,fun h0 => absurd h0 he⟩
 | succ k ih =>
  intro q e V first h1 h2 h3
  by_cases he : e = 0
  ·subst he
   by_cases hend : first = false ∧ byteS b q = 10
   ·refine ⟨[],q,0,loop_end ?_,h2,fun _ => ⟨rfl,rfl,fun h => by rw [hend.1] at h; cases h⟩⟩
    show manifest_reader_attr_l1 r0 b (q : Int) 0 fu mo V first = _
    unfold manifest_reader_attr_l1
    rw [show ((0 : Int) == 0) = true from rfl,cond_true,hend.1,cond_false,peek_ok' h2,Option.bind_some,n10,hend.2,List.append_nil]
    rfl
   ·obtain ⟨c,q1,e1,p1,p2,p3⟩ := pairT' (b := b) (l := r0.f_l) (fu := fu) (mo := mo) h2 hb
    have hs : manifest_reader_attr_l1 r0 b (q : Int) 0 fu mo V first = some (.inl (b,(q1 : Int),e1,fu,mo,V ++ [c],false)) := by
     unfold manifest_reader_attr_l1
     rw [show ((0 : Int) == 0) = true from rfl,cond_true,peek_ok' h2,Option.bind_some,n10,p1,Option.bind_some,app_ok (by rw [List.length_cons,List.length_nil]; omega),Option.bind_some]
     cases first
     ·rw [cond_false,show (byteS b q != 10) = true from by rw [bne_iff_ne]; exact fun h => hend ⟨rfl,h⟩]
      rfl
     ·rfl
    by_cases he1 : e1 = 0
    ·have hd := p3 he1
     have hl := congrArg List.length hd
     rw [List.length_drop,List.length_append,List.length_drop,show (h2x c).length = 2 from rfl] at hl
     obtain ⟨v,q',e',i1,i2,i3⟩ := ih q1 e1 (V ++ [c]) false (by omega) p2 (by rw [List.length_append,List.length_cons,List.length_nil]; omega)
     refine ⟨c :: v,q',e',?_,i2,fun h0 => ?_⟩
     ·rw [loop_next (s := (b,(q : Int),(0 : Int),fu,mo,V,first)) hs,i1,List.append_assoc]
      rfl
     ·obtain ⟨_,j1,_⟩ := i3 h0
      exact ⟨rfl,by rw [hd,j1,List.flatMap_cons,List.append_assoc],fun _ => by simp⟩
    ·refine ⟨[c],q1,e1,?_,p2,fun h0 => absurd h0 he1⟩
     rw [loop_next (s := (b,(q : Int),(0 : Int),fu,mo,V,first)) hs,stop _ _ _ _ he1]
  ·exact ⟨[],q,e,by rw [stop _ _ _ _ he,List.append_nil],h2,fun h0 => absurd h0 he⟩
theorem attrT {q : Nat} (hq : q < b.length) (hb : b.length ≤ 100000000) {l0 : List TApiEntry} {x : TApiEntry} (hl : l0.length ≤ 100000) (hA : x.Attrs.length ≤ 100000000) : ∃ (a : TApiAttr) (q' : Nat) (e' : Int),manifest_reader_attr (rdr b (q : Int) 0 (l0 ++ [x]) fu mo) = some (rdr b (q' : Int) e' (l0 ++ [addAttr x a]) false mo) ∧ q' ≤ b.length ∧
  (e' = 0 → 64 :: b.drop (q + 1) = attrS a ++ b.drop q') := by
 unfold manifest_reader_attr rdr
 dsimp only
 rw [wI (x := (q : Int) + 1) (by omega),show ((q : Int) + 1) = ((q + 1 : Nat) : Int) by omega]
 obtain ⟨q1,e1,h1,g1,c1⟩ := wantT' (b := b) (l := l0 ++ [x]) (fu := fu) (mo := mo) (q := q + 1) (e := 0) hq hb (c := 32) (by decide)
 have hlen : (l0 ++ [x]).length = l0.length + 1 := by simp
 have hix : idx (l0 ++ [x]) (IntKind.i64.wrap (((l0 ++ [x]).length : Int) - 1)) = some x := by
  rw [hlen,wI (by omega),show (((l0.length + 1 : Nat) : Int) - 1) = (l0.length : Int) by omega]
  exact idx_ok (by simp)
 have hset : ∀ y,(l0 ++ [x]).set (IntKind.i64.wrap (((l0 ++ [x]).length : Int) - 1)).toNat y = l0 ++ [y] := by
  intro y
  rw [hlen,wI (by omega),show (((l0.length + 1 : Nat) : Int) - 1).toNat = l0.length by omega,List.set_append_right _ _ (Nat.le_refl _),Nat.sub_self]
  rfl
 have hap : ∀ a : TApiAttr,app x.Attrs [a] = some (x.Attrs ++ [a]) := fun a => app_ok (by rw [List.length_cons,List.length_nil]; omega)
 obtain ⟨s,q2,e2,h2,g2,c2⟩ := wordT' (b := b) (l := l0 ++ [x]) (fu := fu) (mo := mo) (q := q1) (e := e1) g1 hb
 rw [h1,Option.bind_some]
 dsimp only
 rw [h2,Option.bind_some]
 dsimp only
 by_cases hsp : e2 = 0 ∧ byteS b q2 = 32
 ·obtain ⟨z2,hsp⟩ := hsp
  subst z2
  obtain ⟨a1,a2⟩ := at_drop (by decide) hsp
  rw [peek_ok' g2,Option.bind_some,toNat32,hsp,show ((32 : UInt8) == 32) = true from rfl,cond_true,wI (x := (q2 : Int) + 1) (by omega),show ((q2 : Int) + 1) = ((q2 + 1 : Nat) : Int) by omega]
  obtain ⟨v,q3,e3,h3,g3,c3⟩ := attrLT (b := b) (l := l0 ++ [x]) (fu := fu) (mo := mo) hb ({ f_text := { f_b := b,f_at := (q : Int),f_e := 0 },f_l := l0 ++ [x],f_full := fu,f_more := mo } : TManifestReader) rfl b.length (q2 + 1) 0 [] true (by omega) a1 (Nat.zero_le _)
  rw [h3,Option.bind_some]
  dsimp only
  obtain ⟨q4,e4,h4,g4,c4⟩ := wantT' (b := b) (l := l0 ++ [x]) (fu := fu) (mo := mo) (q := q3) (e := e3) g3 hb (c := 10) (by decide)
  rw [h4,Option.bind_some,hix,Option.bind_some,hap,Option.bind_some,lt_eq,hset,List.nil_append]
  refine ⟨{ Name := s,Value := v },q4,e4,rfl,g4,fun h0 => ?_⟩
  obtain ⟨z3,d4⟩ := c4 h0
  obtain ⟨_,d3,hv⟩ := c3 z3
  obtain ⟨z1,d2⟩ := c2 rfl
  obtain ⟨_,d1⟩ := c1 z1
  rw [d1,d2,a2,d3,d4]
  unfold attrS
  dsimp only
  rw [if_neg (hv rfl)]
  simp
 ·have hpk : ∃ c,manifest_text_peek { f_text := { f_b := b,f_at := (q2 : Int),f_e := e2 },f_l := l0 ++ [x],f_full := fu,f_more := mo } = some c ∧ (c == 32) = false := by
   by_cases z : e2 = 0
   ·subst z
    exact ⟨_,peek_ok' g2,by rw [beq_eq_false_iff_ne]; exact fun h => hsp ⟨rfl,h⟩⟩
   ·exact ⟨0,peek_e' z,rfl⟩
  obtain ⟨c,hc1,hc2⟩ := hpk
  rw [hc1,Option.bind_some,toNat32,hc2,cond_false]
  obtain ⟨q4,e4,h4,g4,c4⟩ := wantT' (b := b) (l := l0 ++ [x]) (fu := fu) (mo := mo) (q := q2) (e := e2) g2 hb (c := 10) (by decide)
  rw [h4,Option.bind_some,hix,Option.bind_some,hap,Option.bind_some,lt_eq,hset]
  refine ⟨{ Name := s,Value := [] },q4,e4,rfl,g4,fun h0 => ?_⟩
  obtain ⟨z3,d4⟩ := c4 h0
  obtain ⟨z1,d2⟩ := c2 z3
  obtain ⟨_,d1⟩ := c1 z1
  rw [d1,d2,d4]
  unfold attrS
  dsimp only
  rw [if_pos rfl]
  simp
end
end Go.Proofs.YtebbaokcgnjfiaaDoor.F
