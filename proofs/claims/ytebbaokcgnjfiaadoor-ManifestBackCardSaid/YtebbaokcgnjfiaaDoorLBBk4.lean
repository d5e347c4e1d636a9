import Derived.Test.YtebbaokcgnjfiaaDoorLBBk3
set_option linter.unusedVariables false
set_option linter.unusedSimpArgs false
namespace Go.Proofs.YtebbaokcgnjfiaaDoor.F
open Go Go.RowKit Go.Proofs.YtebbaokcgnjfiaaDoor.K
noncomputable def PL (l : List TApiEntry) : List UInt8 := l.flatMap fun x => lineS x ++ restS x
theorem PL_app (l : List TApiEntry) (x : TApiEntry) : PL (l ++ [x]) = PL l ++ (lineS x ++ restS x) := by unfold PL; rw [List.flatMap_append]; simp
structure Told (x : TApiEntry) : Prop where
 r : RightP x
 d : x.Kind ≠ 1 → x.Data = []
 a : x.Kind = 6 → x.Attrs = []
 g : ¬ (x.Kind = 3 ∨ x.Kind = 6) → x.Target = []
structure InvR (b : List UInt8) (q : Nat) (l : List TApiEntry) (fu mo : Bool) : Prop where
 le : q ≤ b.length
 p : b = PL l ++ b.drop q
 t : ∀ x ∈ l,Told x
 n : l.length ≤ q
 s : ∀ x ∈ l,x.Data.length ≤ q ∧ x.Attrs.length ≤ q
 f : fu = true → ∃ l0 x,l = l0 ++ [x] ∧ x.Kind = 1 ∧ x.Attrs = [] ∧ x.Data.length % 32 = 0
 m : mo = true → ∃ l0 x,l = l0 ++ [x] ∧ x.Kind ≠ 6
theorem dataS_n : ∀ n m d,d.length ≤ n → d.length ≤ m → dataS n d = dataS m d
 | 0,m,d,h,h' => by
  have : d = [] := List.eq_nil_of_length_eq_zero (by omega)
  subst this
  cases m <;> simp [dataS]
 | n + 1,0,d,h,h' => by
  have : d = [] := List.eq_nil_of_length_eq_zero (by omega)
  subst this
  simp [dataS]
 | n + 1,m + 1,d,h,h' => by
  unfold dataS
  split
  ·rfl
  ·rename_i hd
   have h0 : 0 < d.length := by cases d with
    | nil => exact absurd rfl hd
    | cons => simp
   rw [dataS_n n m (d.drop 32) (by rw [List.length_drop]; omega) (by rw [List.length_drop]; omega)]
def dtS (d : List UInt8) : List UInt8 := dataS d.length d
theorem dtS_one {d : List UInt8} (h : d ≠ []) (h32 : d.length ≤ 32) : dtS d = 61 :: 32 :: (d.flatMap h2x ++ [10]) := by
 unfold dtS
 obtain ⟨k,hk⟩ : ∃ k,d.length = k + 1 := ⟨d.length - 1,by have : d.length ≠ 0 := fun e => h (List.eq_nil_of_length_eq_zero e); omega⟩
 rw [hk,dataS,if_neg h,List.take_of_length_le h32,List.drop_eq_nil_of_le h32]
 cases k <;> simp [dataS]
theorem dtS_step {d : List UInt8} (h : 32 ≤ d.length) : dtS d = 61 :: 32 :: ((d.take 32).flatMap h2x ++ 10 :: dtS (d.drop 32)) := by
 unfold dtS
 obtain ⟨k,hk⟩ : ∃ k,d.length = k + 1 := ⟨d.length - 1,by omega⟩
 have hne : d ≠ [] := by intro e; subst e; simp at h
 conv => lhs; rw [hk,dataS,if_neg hne]
 rw [dataS_n k (d.drop 32).length (d.drop 32) (by rw [List.length_drop]; omega) (Nat.le_refl _)]
theorem dtS_app : ∀ (k : Nat) (u d : List UInt8),u.length = 32 * k → dtS (u ++ d) = dtS u ++ dtS d
 | 0,u,d,h => by
  have : u = [] := List.eq_nil_of_length_eq_zero (by omega)
  subst this
  rfl
 | k + 1,u,d,h => by
  rw [dtS_step (d := u ++ d) (by rw [List.length_append]; omega),dtS_step (d := u) (by omega),List.take_append_of_le_length (by omega),List.drop_append_of_le_length (by omega),dtS_app k (u.drop 32) d (by rw [List.length_drop]; omega)]
  simp
theorem restS_eq (x : TApiEntry) : restS x = (if x.Kind = 1 then dtS x.Data else []) ++ (if x.Kind = 6 then [] else x.Attrs.flatMap attrS) := rfl
section
variable {b : List UInt8} {l : List TApiEntry} {fu mo : Bool}
theorem letters_loop (r0 : TManifestReader) (c : UInt8) : ∀ (k t : Nat),6 - t = k → t ≤ 6 → (∀ j : Nat,j < t → ([102,100,108,98,99,104] : List UInt8)[j]? ≠ some c) →
  (∃ j : Nat,j < 6 ∧ ([102,100,108,98,99,104] : List UInt8)[j]? = some c ∧ loopO (fun s => manifest_reader_next_l1 r0 c s) t = Option.bind (manifest_reader_entry r0 ((j : Int) + 1)) fun e => some (.inr e)) ∨ (loopO (fun s => manifest_reader_next_l1 r0 c s) t = some (.inl ()) ∧ ∀ j : Nat,j < 6 → ([102,100,108,98,99,104] : List UInt8)[j]? ≠ some c) := by
 intro k
 induction k with
 | zero =>
  intro t h1 h2 h3
  refine .inr ⟨loop_end ?_,fun j hj => h3 j (by omega)⟩
  show manifest_reader_next_l1 r0 c t = _
  unfold manifest_reader_next_l1
  rw [decide_eq_false (by omega)]
  rfl
 | succ k ih =>
  intro t h1 h2 h3
  have hlt : t < 6 := by omega
  obtain ⟨y,hy⟩ : ∃ y,([102,100,108,98,99,104] : List UInt8)[t]? = some y := ⟨_,List.getElem?_eq_getElem (show t < 6 from hlt)⟩
  by_cases hc : y = c
  ·refine .inl ⟨t,hlt,by rw [hy,hc],?_⟩
   have hs : manifest_reader_next_l1 r0 c t = Option.bind (manifest_reader_entry r0 ((t : Int) + 1)) fun e => some (.inr (.inr e)) := by
    unfold manifest_reader_next_l1
    rw [decide_eq_true (by omega),cond_true,idx_ok hy,Option.bind_some,show (((y.toNat : Int)) == (c.toNat : Int)) = true from by simp [hc],cond_true]
   rw [loopO_eq,hs]
   cases manifest_reader_entry r0 ((t : Int) + 1) <;> rfl
  ·have hs : manifest_reader_next_l1 r0 c t = some (.inl (t + 1)) := by
    unfold manifest_reader_next_l1
    rw [decide_eq_true (by omega),cond_true,idx_ok hy,Option.bind_some,show (((y.toNat : Int)) == (c.toNat : Int)) = false from by
     rw [beq_eq_false_iff_ne]; exact fun h => hc (UInt8.toNat_inj.1 (by omega))]
    rfl
   rw [loop_next hs]
   refine ih (t + 1) (sub1' h1) hlt (fun j hj => ?_)
   by_cases hjt : j = t
   ·subst hjt; rw [hy]; exact fun h => hc (Option.some.inj h)
   ·exact h3 j (by omega)
theorem nextT {q : Nat} (hb : b.length ≤ 10000) (hI : InvR b q l fu mo) (hq : q < b.length) : ∃ (q' : Nat) (e' : Int) (l' : List TApiEntry) (fu' mo' : Bool),manifest_reader_next (rdr b (q : Int) 0 l fu mo) = some (rdr b (q' : Int) e' l' fu' mo') ∧ q' ≤ b.length ∧ (e' = 0 → q < q' ∧ InvR b q' l' fu' mo') := by
 have hn := hI.n
 unfold manifest_reader_next
 rw [peek_ok hI.le,Option.bind_some]
 have bad : ∃ (q' : Nat) (e' : Int) (l' : List TApiEntry) (fu' mo' : Bool),(Option.bind (manifest_text_fail (rdr b (q : Int) 0 l fu mo) 6 (rdr b (q : Int) 0 l fu mo).f_text.f_at) fun fail =>
   some ({ f_text := ({ f_b := (rdr b (q : Int) 0 l fu mo).f_text.f_b,f_at := fail.f_text.f_at,f_e := fail.f_text.f_e } : TManifestText),f_l := (rdr b (q : Int) 0 l fu mo).f_l,f_full := fail.f_full,f_more := fail.f_more } : TManifestReader)) = some (rdr b (q' : Int) e' l' fu' mo') ∧ q' ≤ b.length ∧ (e' = 0 → q < q' ∧ InvR b q' l' fu' mo') := ⟨q,6,l,fu,mo,rfl,hI.le,fun h => absurd h (by decide)⟩
 rcases letters_loop (rdr b (q : Int) 0 l fu mo) (byteS b q) 6 0 rfl (by omega) (fun j hj => by omega) with ⟨j,j1,j2,j3⟩ | ⟨h,_⟩
 ·rw [j3]
  obtain ⟨x,q',e',h1,h2,h3⟩ := entryT (b := b) (l := l) (fu := fu) (mo := mo) hq (by omega) (by omega) (k := (j : Int) + 1) (by omega)
  rw [h1,Option.bind_some,bnd_inr]
  refine ⟨q',e',l ++ [x],_,_,rfl,h2,fun h0 => ?_⟩
  obtain ⟨g1,g2,g3,g4,g5,g6⟩ := h3 h0
  have hlet : letterK ((j : Int) + 1) = byteS b q := by
   unfold letterK
   rw [show ((j : Int) + 1 - 1).toNat = j by omega,List.getD_eq_getElem?_getD,j2]
   rfl
  have hd : b.drop q = lineS x ++ b.drop q' := by
   rw [← g1,hlet,byteS_lt hq]
   exact List.drop_eq_getElem_cons hq
  have hrest : restS x = [] := by
   rw [restS_eq,g4,g5]
   by_cases k1 : x.Kind = 1
   ·rw [if_pos k1]; simp [dtS,dataS]
   ·rw [if_neg k1]; simp
  have hlq : q < q' := by
   have := congrArg List.length hd
   unfold lineS at this
   simp only [List.length_drop,List.length_append,List.length_cons] at this
   omega
  refine ⟨hlq,h2,?_,?_,by rw [List.length_append,List.length_cons,List.length_nil]; omega,?_,?_,?_⟩
  ·rw [PL_app,hrest,List.append_nil,List.append_assoc,← hd]
   exact hI.p
  ·intro y hy
   rcases List.mem_append.1 hy with hy | hy
   ·exact hI.t y hy
   ·rw [List.mem_singleton] at hy; subst hy
    exact ⟨g2,fun _ => g4,fun _ => g5,fun h => g6 (by rw [← g3]; exact h)⟩
  ·intro y hy
   rcases List.mem_append.1 hy with hy | hy
   ·have := hI.s y hy; omega
   ·rw [List.mem_singleton] at hy; subst hy
    rw [g4,g5]; simp
  ·intro hk
   exact ⟨l,x,rfl,by rw [g3]; simpa using hk,g5,by rw [g4]; rfl⟩
  ·intro hk
   exact ⟨l,x,rfl,by rw [g3]; simpa using hk⟩
 ·rw [h,bnd_inl]
  by_cases h61 : byteS b q = 61
  ·rw [show (((byteS b q).toNat : Int) == 61) = true from by rw [h61]; rfl,cond_true]
   rcases (Bool.eq_false_or_eq_true fu).symm with hfu | hfu
   ·rw [show (rdr b (q : Int) 0 l fu mo).f_full = false from hfu,cond_false]; exact bad
   ·obtain ⟨l0,x,rfl,k1,a0,d32⟩ := hI.f hfu
    rw [show (rdr b (q : Int) 0 (l0 ++ [x]) fu mo).f_full = true from hfu,cond_true]
    have hsx := hI.s x (by simp)
    rw [List.length_append,List.length_cons,List.length_nil] at hn
    obtain ⟨d,q',e',g1,g2,g3⟩ := dataT (b := b) (fu := fu) (mo := mo) (l0 := l0) (x := x) hq (by omega) (by omega) (by omega)
    rw [g1,Option.bind_some]
    refine ⟨q',e',_,_,_,rfl,g2,fun h0 => ?_⟩
    obtain ⟨c1,c2,c3⟩ := g3 h0
    obtain ⟨a1,a2⟩ := at_drop (by decide) h61
    have hd : b.drop q = dtS d ++ b.drop q' := by rw [a2,c1,dtS_one c2 c3]; simp
    have hll := congrArg List.length hd
    rw [dtS_one c2 c3] at hll
    simp only [List.length_drop,List.length_append,List.length_cons,List.length_nil,hex_len] at hll
    have hline : lineS (addData x d) = lineS x := rfl
    have hrest : restS (addData x d) = restS x ++ dtS d := by
     rw [restS_eq,restS_eq]
     unfold addData
     dsimp only
     rw [dtS_app (x.Data.length / 32) x.Data d (by omega)]
     simp [k1,a0]
    refine ⟨by omega,g2,?_,?_,by rw [List.length_append,List.length_cons,List.length_nil]; omega,?_,?_,?_⟩
    ·have hp := hI.p
     rw [PL_app] at hp ⊢
     rw [hline,hrest]
     have e : PL l0 ++ (lineS x ++ (restS x ++ dtS d)) ++ b.drop q' = PL l0 ++ (lineS x ++ restS x) ++ b.drop q := by rw [hd]; simp only [List.append_assoc]
     rw [e]
     exact hp
    ·intro y hy
     rcases List.mem_append.1 hy with hy | hy
     ·exact hI.t y (by simp [hy])
     ·rw [List.mem_singleton] at hy; subst hy
      have hx := hI.t x (by simp)
      exact ⟨⟨hx.r.kind,hx.r.head,hx.r.size,hx.r.dev⟩,fun hk => absurd k1 hk,hx.a,hx.g⟩
    ·intro y hy
     rcases List.mem_append.1 hy with hy | hy
     ·have := hI.s y (by simp [hy]); omega
     ·rw [List.mem_singleton] at hy; subst hy
      unfold addData
      dsimp only
      rw [List.length_append]
      omega
    ·intro hf
     exact ⟨l0,_,rfl,k1,a0,by unfold addData; dsimp only; rw [List.length_append]; have := of_decide_eq_true hf; omega⟩
    ·intro hm
     exact ⟨l0,_,rfl,fun h6 => by have h6 : x.Kind = 6 := h6; omega⟩
  ·rw [show (((byteS b q).toNat : Int) == 61) = false from by rw [beq_eq_false_iff_ne]; exact fun h => h61 (UInt8.toNat_inj.1 (by show (byteS b q).toNat = 61; omega)),cond_false]
   by_cases h64 : byteS b q = 64
   ·rw [show (((byteS b q).toNat : Int) == 64) = true from by rw [h64]; rfl,cond_true]
    rcases (Bool.eq_false_or_eq_true mo).symm with hmo | hmo
    ·rw [show (rdr b (q : Int) 0 l fu mo).f_more = false from hmo,cond_false]; exact bad
    ·obtain ⟨l0,x,rfl,k6⟩ := hI.m hmo
     rw [show (rdr b (q : Int) 0 (l0 ++ [x]) fu mo).f_more = true from hmo,cond_true]
     have hsx := hI.s x (by simp)
     rw [List.length_append,List.length_cons,List.length_nil] at hn
     obtain ⟨a,q',e',g1,g2,g3⟩ := attrT (b := b) (fu := fu) (mo := mo) (l0 := l0) (x := x) hq (by omega) (by omega) (by omega)
     rw [g1,Option.bind_some]
     refine ⟨q',e',_,_,_,rfl,g2,fun h0 => ?_⟩
     have c1 := g3 h0
     obtain ⟨a1,a2⟩ := at_drop (by decide) h64
     have hd : b.drop q = attrS a ++ b.drop q' := by rw [a2,c1]
     have hll := congrArg List.length hd
     unfold attrS at hll
     simp only [List.length_drop,List.length_append,List.length_cons] at hll
     have hline : lineS (addAttr x a) = lineS x := rfl
     have hrest : restS (addAttr x a) = restS x ++ attrS a := by
      rw [restS_eq,restS_eq]
      unfold addAttr
      dsimp only
      rw [List.flatMap_append]
      simp [k6]
     refine ⟨by omega,g2,?_,?_,by rw [List.length_append,List.length_cons,List.length_nil]; omega,?_,?_,?_⟩
     ·have hp := hI.p
      rw [PL_app] at hp ⊢
      rw [hline,hrest]
      have e : PL l0 ++ (lineS x ++ (restS x ++ attrS a)) ++ b.drop q' = PL l0 ++ (lineS x ++ restS x) ++ b.drop q := by rw [hd]; simp only [List.append_assoc]
      rw [e]
      exact hp
     ·intro y hy
      rcases List.mem_append.1 hy with hy | hy
      ·exact hI.t y (by simp [hy])
      ·rw [List.mem_singleton] at hy; subst hy
       have hx := hI.t x (by simp)
       exact ⟨⟨hx.r.kind,hx.r.head,hx.r.size,hx.r.dev⟩,hx.d,fun hk => absurd hk k6,hx.g⟩
     ·intro y hy
      rcases List.mem_append.1 hy with hy | hy
      ·have := hI.s y (by simp [hy]); omega
      ·rw [List.mem_singleton] at hy; subst hy
       unfold addAttr
       dsimp only
       rw [List.length_append,List.length_cons,List.length_nil]
       omega
     ·intro hf; cases hf
     ·intro hm
      exact ⟨l0,_,rfl,k6⟩
   ·rw [show (((byteS b q).toNat : Int) == 64) = false from by rw [beq_eq_false_iff_ne]; exact fun h => h64 (UInt8.toNat_inj.1 (by show (byteS b q).toNat = 64; omega)),cond_false]
    exact bad
end
end Go.Proofs.YtebbaokcgnjfiaaDoor.F
