import Derived.Test.YtebbaokcgnjfiaaDoorLBBk4
set_option linter.unusedVariables false
set_option linter.unusedSimpArgs false
namespace Go.Proofs.YtebbaokcgnjfiaaDoor.F
open Go Go.RowKit Go.Proofs.YtebbaokcgnjfiaaDoor.K
theorem parse_loop {b : List UInt8} (hb : b.length ≤ 10000) : ∀ k q (l : List TApiEntry) (fu mo : Bool),b.length - q ≤ k → InvR b q l fu mo →
  ∃ (q' : Nat) (e' : Int) (l' : List TApiEntry) (fu' mo' : Bool),loopO (fun s => manifest_Parse_l1 b s.1 s.2.1 s.2.2.1 s.2.2.2.1 s.2.2.2.2.1 s.2.2.2.2.2) (b,(q : Int),0,l,fu,mo) = some (b,(q' : Int),e',l',fu',mo') ∧ q' ≤ b.length ∧ (e' = 0 → q' = b.length ∧ InvR b q' l' fu' mo') := by
 have fin : ∀ q (l : List TApiEntry) (fu mo : Bool),InvR b q l fu mo → b.length ≤ q → loopO (fun s => manifest_Parse_l1 b s.1 s.2.1 s.2.2.1 s.2.2.2.1 s.2.2.2.2.1 s.2.2.2.2.2) (b,(q : Int),0,l,fu,mo) = some (b,(q : Int),0,l,fu,mo) := by
  intro q l fu mo hI hq
  refine loop_end ?_
  show manifest_Parse_l1 b b (q : Int) 0 l fu mo = _
  unfold manifest_Parse_l1
  rw [show ((0 : Int) == 0) = true from rfl,cond_true,decide_eq_false (by omega)]
  rfl
 intro k
 induction k with
 | zero =>
  intro q l fu mo h1 hI
  have := hI.le
  exact ⟨q,0,l,fu,mo,fin q l fu mo hI (by omega),hI.le,fun _ => ⟨by omega,hI⟩⟩
 | succ k ih =>
  intro q l fu mo h1 hI
  have hle := hI.le
  by_cases hq : q < b.length
  ·obtain ⟨q1,e1,l1,fu1,mo1,g1,g2,g3⟩ := nextT hb hI hq
   have hs : manifest_Parse_l1 b b (q : Int) 0 l fu mo = some (.inl (b,(q1 : Int),e1,l1,fu1,mo1)) := by
    unfold manifest_Parse_l1
    rw [show ((0 : Int) == 0) = true from rfl,cond_true,decide_eq_true (by omega),cond_true,show manifest_reader_next ({ f_text := ({ f_b := b,f_at := (q : Int),f_e := 0 } : TManifestText),f_l := l,f_full := fu,f_more := mo } : TManifestReader) = some (rdr b (q1 : Int) e1 l1 fu1 mo1) from g1]
    rfl
   by_cases he : e1 = 0
   ·obtain ⟨j1,j2⟩ := g3 he
    subst he
    obtain ⟨q',e',l',fu',mo',i1,i2,i3⟩ := ih q1 l1 fu1 mo1 (by omega) j2
    exact ⟨q',e',l',fu',mo',by rw [loop_next (s := (b,(q : Int),(0 : Int),l,fu,mo)) hs,i1],i2,i3⟩
   ·refine ⟨q1,e1,l1,fu1,mo1,?_,g2,fun h => absurd h he⟩
    rw [loop_next (s := (b,(q : Int),(0 : Int),l,fu,mo)) hs]
    refine loop_end ?_
    show manifest_Parse_l1 b b (q1 : Int) e1 l1 fu1 mo1 = _
    unfold manifest_Parse_l1
    rw [show (e1 == 0) = false from by simpa using he]
    rfl
  ·exact ⟨q,0,l,fu,mo,fin q l fu mo hI (by omega),hI.le,fun _ => ⟨by omega,hI⟩⟩
theorem ParseT {b : List UInt8} (hb : b.length ≤ 10000) : ∃ r,manifest_Parse b = some r ∧ (r.2.1 ≠ 0 ∧ r.1 = [] ∧ 0 ≤ r.2.2 ∧ r.2.2 ≤ b.length ∨ r.2.1 = 0 ∧ r.2.2 = b.length ∧ b = PL r.1 ∧ ∀ x ∈ r.1,Told x) := by
 have h0 : InvR b 0 [] false false := ⟨Nat.zero_le _,rfl,by simp,Nat.zero_le _,by simp,fun h => (by cases h),fun h => (by cases h)⟩
 obtain ⟨q',e',l',fu',mo',i1,i2,i3⟩ := parse_loop hb b.length 0 [] false false (by omega) h0
 unfold manifest_Parse
 rw [decide_eq_false (by omega),cond_false]
 have i1 : loopO (fun s => manifest_Parse_l1 b s.1 s.2.1 s.2.2.1 s.2.2.2.1 s.2.2.2.2.1 s.2.2.2.2.2) (b,0,0,[],false,false) = some (b,(q' : Int),e',l',fu',mo') := i1
 rw [i1,Option.bind_some]
 dsimp only
 by_cases he : e' = 0
 ·obtain ⟨j1,j2⟩ := i3 he
  rw [show (e' != 0) = false from by simp [he],cond_false]
  refine ⟨_,rfl,.inr ⟨rfl,rfl,?_,j2.t⟩⟩
  have := j2.p
  rw [j1,List.drop_length,List.append_nil] at this
  exact this
 ·rw [show (e' != 0) = true from by simpa using he,cond_true]
  exact ⟨_,rfl,.inl ⟨he,rfl,by show (0 : Int) ≤ (q' : Int); omega,by show (q' : Int) ≤ _; omega⟩⟩
theorem Qt_ge (s : List UInt8) : s.length ≤ (Qt s).length := by
 unfold Qt
 split
 ·rename_i h; subst h; simp
 ·induction s with
  | nil => simp
  | cons c s ih =>
   rw [List.flatMap_cons,List.length_append,List.length_cons]
   have h1 : 1 ≤ (q1 c).length := by unfold q1; split <;> simp [h2x]
   by_cases hs : s = []
   ·subst hs; simp; omega
   ·have := ih hs; omega
theorem attrS_ge (a : TApiAttr) : a.Name.length + a.Value.length + 2 ≤ (attrS a).length := by
 have := Qt_ge a.Name
 unfold attrS
 split
 ·rename_i h; rw [h]; simp only [List.length_cons,List.length_append,List.length_nil]; omega
 ·simp only [List.length_cons,List.length_append,List.length_nil,hex_len]; omega
theorem dataS_ge : ∀ n d,d.length ≤ n → d.length ≤ (dataS n d).length
 | 0,d,h => by omega
 | n + 1,d,h => by
  unfold dataS
  split
  ·rename_i hd; subst hd; simp
  ·have := dataS_ge n (d.drop 32) (by rw [List.length_drop]; omega)
   rw [List.length_drop] at this
   simp only [List.length_cons,List.length_append,hex_len,List.length_take]
   omega
structure Fit (x : TApiEntry) : Prop where
 t : Told x
 l : (lineS x ++ restS x).length ≤ 10000
theorem Fit.bounds {x : TApiEntry} (h : Fit x) : x.Path.length ≤ 10000 ∧ x.Target.length ≤ 10000 ∧ x.Data.length ≤ 10000 ∧ (x.Attrs.flatMap attrS).length ≤ 10000 ∧ 1 ≤ (lineS x).length := by
 have hl := h.l
 rw [List.length_append,restS_eq,List.length_append] at hl
 have q1 := Qt_ge x.Path
 have q2 := Qt_ge x.Target
 have hline : x.Path.length + (linkS x).length + 1 ≤ (lineS x).length := by
  unfold lineS
  simp only [List.length_cons,List.length_append]
  omega
 refine ⟨by omega,?_,?_,?_,by omega⟩
 ·by_cases hk : x.Kind = 3 ∨ x.Kind = 6
  ·unfold linkS at hline
   rw [if_pos hk,List.length_cons] at hline
   omega
  ·rw [h.t.g hk]; simp
 ·by_cases hk : x.Kind = 1
  ·rw [if_pos hk] at hl
   have := dataS_ge x.Data.length x.Data (Nat.le_refl _)
   have e : (dtS x.Data).length = (dataS x.Data.length x.Data).length := rfl
   omega
  ·rw [h.t.d hk]; simp
 ·by_cases hk : x.Kind = 6
  ·rw [h.t.a hk]; simp
  ·rw [if_neg hk] at hl
   omega
theorem attrsW {x : TApiEntry} (hk : x.Kind ≠ 6) (hf : (x.Attrs.flatMap attrS).length ≤ 10000) (b : List UInt8) (hb : b.length ≤ 1000000000) : loopO (fun s => manifest_rest_l2 x s.1 s.2) (b,0) = some (b ++ x.Attrs.flatMap attrS) := by
 have := loop_fold x.Attrs (fun s => manifest_rest_l2 x s.1 s.2) (fun b a => b ++ attrS a) id (fun b r => b.length + (r.flatMap attrS).length ≤ 2000000000 ∧ (r.flatMap attrS).length ≤ 10000) ?_ ?_ x.Attrs.length 0 b (by omega) (by omega) (by rw [List.drop_zero]; exact ⟨by omega,hf⟩)
 ·rw [this,List.drop_zero,fold_flat]
  rfl
 ·intro b t a ha ⟨hI,hA⟩
  have hlt := (List.getElem?_eq_some_iff.1 ha).1
  have e : a = x.Attrs[t] := (List.getElem?_eq_some_iff.1 ha).2.symm
  rw [List.drop_eq_getElem_cons hlt,← e,List.flatMap_cons,List.length_append] at hI hA
  have hge := attrS_ge a
  have hql := Qt_len a.Name
  have hn : a.Name.length ≤ 10000 := by omega
  have hv : a.Value.length ≤ 10000 := by omega
  refine ⟨?_,by rw [List.length_append]; omega,by omega⟩
  unfold manifest_rest_l2 attrS
  dsimp only
  rw [decide_eq_true (by omega),cond_true,ha,Option.bind_some,show (x.Kind == 6) = false from by simpa using hk,cond_false,app_ok (by simp; omega),Option.bind_some,Quote_ok _ (by omega),Option.bind_some,app_ok (by simp; omega),Option.bind_some]
  by_cases hv0 : a.Value = []
  ·rw [if_pos hv0,hv0,decide_eq_false (by simp),cond_false,app_ok (by simp; omega)]
   simp only [List.append_assoc,List.cons_append,List.nil_append,Option.bind_some]
  ·have : 0 < a.Value.length := by cases h : a.Value with
    | nil => exact absurd h hv0
    | cons => simp
   rw [if_neg hv0,decide_eq_true (by omega),cond_true,app_ok (by simp; omega),Option.bind_some,hex_ok _ _ (by simp; omega),Option.bind_some,app_ok (by simp only [List.length_append,List.length_cons,List.length_nil,hex_len]; omega)]
   simp only [List.append_assoc,List.cons_append,List.nil_append,Option.bind_some]
 ·intro b _
  unfold manifest_rest_l2
  dsimp only
  rw [decide_eq_false (by omega)]
  rfl
theorem restW (b : List UInt8) {x : TApiEntry} (h : Fit x) (hb : b.length ≤ 900000000) : manifest_rest b x = some (b ++ restS x) := by
 obtain ⟨b1,b2,b3,b4,b5⟩ := h.bounds
 have hl := dataS_len x.Data.length x.Data
 unfold manifest_rest restS
 by_cases k1 : x.Kind = 1
 ·rw [data_loop k1 x.Data.length b x.Data (Nat.le_refl _) (by omega),Option.bind_some,attrsW (by omega) b4 _ (by rw [List.length_append]; omega),Option.bind_some,if_pos k1,if_neg (by omega),List.append_assoc]
 ·have e : loopO (fun s => manifest_rest_l1 x s.1 s.2) (b,x.Data) = some b := by
   refine loop_end ?_
   show manifest_rest_l1 x b x.Data = _
   unfold manifest_rest_l1
   rw [show (x.Kind == 1) = false from by simpa using k1]
   rfl
  rw [e,Option.bind_some,if_neg k1,List.nil_append]
  by_cases k6 : x.Kind = 6
  ·rw [attrs_none k6,if_pos k6,List.append_nil]; rfl
  ·rw [attrsW k6 b4 _ (by omega),if_neg k6]; rfl
theorem tooLong_loopW {x : TApiEntry} (hf : (x.Attrs.flatMap attrS).length ≤ 10000) : loopO (fun s => manifest_tooLong_l1 x s.1 s.2) (1048576,0) = some (.inl ()) := by
 have key : ∀ k t (left : Int),x.Attrs.length - t = k → t ≤ x.Attrs.length → (((x.Attrs.drop t).flatMap attrS).length : Int) ≤ left → left ≤ 1048576 → loopO (fun s => manifest_tooLong_l1 x s.1 s.2) (left,t) = some (.inl ()) := by
  intro k
  induction k with
  | zero =>
   intro t left h1 h2 h3 h4
   refine loop_end ?_
   show manifest_tooLong_l1 x left t = _
   unfold manifest_tooLong_l1
   rw [decide_eq_false (by omega)]
   rfl
  | succ k ih =>
   intro t left h1 h2 h3 h4
   have hlt : t < x.Attrs.length := by omega
   have hx := List.getElem?_eq_getElem hlt
   have hge := attrS_ge x.Attrs[t]
   rw [List.drop_eq_getElem_cons hlt,List.flatMap_cons,List.length_append] at h3
   refine (loop_next (s' := (left - ((x.Attrs[t].Name.length : Int) + (x.Attrs[t].Value.length : Int)),t + 1)) ?_).trans (ih (t + 1) _ (sub1' h1) hlt (by omega) (by omega))
   show manifest_tooLong_l1 x left t = _
   unfold manifest_tooLong_l1
   rw [decide_eq_true (by omega),cond_true,hx,Option.bind_some,decide_eq_false (by omega),cond_false,wI (x := left - (x.Attrs[t].Name.length : Int)) (by omega),decide_eq_false (by omega),cond_false,wI (x := (x.Attrs[t].Name.length : Int) + (x.Attrs[t].Value.length : Int)) (by omega),wI (by omega)]
 exact key x.Attrs.length 0 1048576 (by omega) (by omega) (by rw [List.drop_zero]; omega) (by omega)
theorem tooLongW {x : TApiEntry} (h : Fit x) : manifest_tooLong x = some false := by
 obtain ⟨hp,ht,hd,b4,b5⟩ := h.bounds
 have h1 := tooLong_loopW b4
 have h2 : loopO (fun s => manifest_tooLong_l2 x s.1 s.2) (1048576,0) = some (.inl ()) := h1
 have h4 : loopO (fun s => manifest_tooLong_l4 x s.1 s.2) (1048576,0) = some (.inl ()) := h1
 unfold manifest_tooLong
 rw [decide_eq_false (by omega),cond_false,h1,h2,h4,decide_eq_false (show ¬ (x.Data.length : Int) > 1048576 by omega),decide_eq_false (show ¬ (x.Target.length : Int) > 1048576 by omega)]
 have h3 : ∃ r,loopO (fun s => manifest_tooLong_l3 x) () = some r ∧ (r = .inl () ∨ r = .inr false) := by
  by_cases h : 0 < x.Attrs.length
  ·refine ⟨.inr false,loop_end ?_,.inr rfl⟩
   unfold manifest_tooLong_l3
   rw [decide_eq_true (by omega),cond_true,List.getElem?_eq_getElem h]
   rfl
  ·refine ⟨.inl (),loop_end ?_,.inl rfl⟩
   unfold manifest_tooLong_l3
   rw [decide_eq_false (by omega)]
   rfl
 obtain ⟨r,e,h3⟩ := h3
 rw [e]
 rcases h3 with rfl | rfl <;> cases (x.Kind == 1) <;> cases (x.Kind == 3) <;> cases (x.Kind == 6) <;> rfl
theorem PL_cons (x : TApiEntry) (l : List TApiEntry) : PL (x :: l) = (lineS x ++ restS x) ++ PL l := by unfold PL; rw [List.flatMap_cons]
theorem printW {l : List TApiEntry} (ht : ∀ x ∈ l,Told x) (hp : (PL l).length ≤ 10000) : manifest_Print l = some (PL l,0) := by
 have hlen : ∀ l : List TApiEntry,l.length ≤ (PL l).length := by
  intro l
  induction l with
  | nil => simp [PL]
  | cons x l ih =>
   rw [PL_cons,List.length_append,List.length_append,List.length_cons]
   have : 1 ≤ (lineS x).length := by unfold lineS; simp
   omega
 have hl := hlen l
 have hall : l.all ref27_Right = true := List.all_eq_true.2 fun x hx => (Right_iff x).2 (ht x hx).r
 unfold manifest_Print
 rw [decide_eq_false (by omega),cond_false,rights_loop,hall,if_pos rfl,bnd_inl]
 have key : ∀ k t (b : List UInt8),l.length - t = k → t ≤ l.length → b.length + (PL (l.drop t)).length ≤ 10000 → loopO (fun s => manifest_Print_l2 l s.1 s.2) (b,t) = some (.inl (b ++ PL (l.drop t))) := by
  intro k
  induction k with
  | zero =>
   intro t b h1 h2 h3
   refine loop_end ?_
   show manifest_Print_l2 l b t = _
   unfold manifest_Print_l2
   rw [decide_eq_false (by omega),List.drop_eq_nil_of_le (by omega)]
   simp [PL]
  | succ k ih =>
   intro t b h1 h2 h3
   have hlt : t < l.length := by omega
   obtain ⟨x,hx⟩ : ∃ x,x = l[t] := ⟨_,rfl⟩
   have hxi := List.getElem?_eq_getElem hlt
   rw [← hx] at hxi
   have hd : l.drop t = x :: l.drop (t + 1) := by rw [hx]; exact List.drop_eq_getElem_cons hlt
   rw [hd,PL_cons,List.length_append] at h3
   have hf : Fit x := ⟨ht x (by rw [hx]; exact List.getElem_mem hlt),by omega⟩
   obtain ⟨b1,b2,b3,b4,b5⟩ := hf.bounds
   rw [List.length_append] at h3
   have hs : manifest_Print_l2 l b t = some (.inl (b ++ (lineS x ++ restS x),t + 1)) := by
    unfold manifest_Print_l2
    rw [decide_eq_true (by omega),cond_true,hxi,Option.bind_some,tooLongW hf,Option.bind_some,cond_false,line_ok b hf.t.r (by omega) (by omega) (by omega),Option.bind_some,restW _ hf (by rw [List.length_append]; omega),Option.bind_some,List.append_assoc,decide_eq_false (by simp only [List.length_append]; omega)]
    rfl
   rw [loop_next (s := (b,t)) hs,ih (t + 1) _ (sub1' h1) hlt (by simp only [List.length_append]; omega),hd,PL_cons,List.append_assoc]
 rw [key l.length 0 [] (by omega) (by omega) (by rw [List.drop_zero]; simp; omega),List.drop_zero]
 rfl
end Go.Proofs.YtebbaokcgnjfiaaDoor.F
