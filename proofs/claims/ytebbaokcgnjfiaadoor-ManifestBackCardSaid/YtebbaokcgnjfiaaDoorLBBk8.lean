import Derived.Test.YtebbaokcgnjfiaaDoorLBBk7
set_option linter.unusedVariables false
set_option linter.unusedSimpArgs false
namespace Go.Proofs.YtebbaokcgnjfiaaDoor.F
open Go Go.RowKit Go.Proofs.YtebbaokcgnjfiaaDoor.K
theorem SameAttrs_refl (a : List TApiAttr) : ref11_SameAttrs a a = some true := by
 unfold ref11_SameAttrs
 rw [show ((a.length : Int) != (a.length : Int)) = false from by simp,cond_false]
 have key : ∀ k t,a.length - t = k → t ≤ a.length → loopO (fun s => ref11_SameAttrs_l1 a a s) t = some (.inl ()) := by
  intro k
  induction k with
  | zero =>
   intro t h1 h2
   refine loop_end ?_
   unfold ref11_SameAttrs_l1
   rw [decide_eq_false (by omega)]
   rfl
  | succ k ih =>
   intro t h1 h2
   have hs : ref11_SameAttrs_l1 a a t = some (.inl (t + 1)) := by
    unfold ref11_SameAttrs_l1
    rw [decide_eq_true (by omega),cond_true,List.getElem?_eq_getElem (show t < a.length by omega)]
    simp
   rw [loop_next (body := fun s => ref11_SameAttrs_l1 a a s) hs]
   exact ih (t + 1) (by omega) (by omega)
 rw [key a.length 0 (by omega) (by omega),bnd_inl]
theorem SameEntries_one (y : TApiEntry) : ref11_SameEntries [y] [y] = some true := by
 unfold ref11_SameEntries
 have h0 : ref11_SameEntries_l1 [y] [y] 0 = some (.inl 1) := by
  unfold ref11_SameEntries_l1
  simp [SameAttrs_refl]
 have h1 : ref11_SameEntries_l1 [y] [y] 1 = some (.inr (.inl ())) := by
  unfold ref11_SameEntries_l1
  simp
 rw [loop_next (body := fun s => ref11_SameEntries_l1 [y] [y] s) h0,loop_end (body := fun s => ref11_SameEntries_l1 [y] [y] s) h1,bnd_inl]
 simp
theorem Same27 (l : List TApiEntry) (f : TApiEntry → TApiEntry) (hf : ∀ x ∈ l,ref27_Told (f x) = ref27_Told x) : ref27_Same l (l.map f) true = some true := by
 unfold ref27_Same
 rw [List.length_map,show ((l.length : Int) != (l.length : Int)) = false from by simp,cond_false]
 have key : ∀ k t,l.length - t = k → t ≤ l.length → loopO (fun s => ref27_Same_l1 l (l.map f) s.1 s.2) (true,t) = some (.inl ()) := by
  intro k
  induction k with
  | zero =>
   intro t h1 h2
   refine loop_end ?_
   show ref27_Same_l1 l (l.map f) true t = _
   unfold ref27_Same_l1
   rw [decide_eq_false (by omega)]
   rfl
  | succ k ih =>
   intro t h1 h2
   have hs : ref27_Same_l1 l (l.map f) true t = some (.inl (true,t + 1)) := by
    unfold ref27_Same_l1
    have ht : t < l.length := by omega
    have e := hf l[t] (List.getElem_mem ht)
    rw [decide_eq_true (by omega),cond_true,List.getElem?_map,List.getElem?_eq_getElem ht]
    show Option.bind (ref11_SameEntries [ref27_Told l[t]] [ref27_Told (f l[t])]) _ = _
    rw [e,SameEntries_one]
    rfl
   rw [loop_next (body := fun s => ref27_Same_l1 l (l.map f) s.1 s.2) (s := (true,t)) hs]
   exact ih (t + 1) (by omega) (by omega)
 rw [key l.length 0 (by omega) (by omega),bnd_inl]
theorem Told_tl (x : TApiEntry) (h : RightP x) : ref27_Told (tl x) = ref27_Told x := by
 have hk := h.kind
 have : x.Kind = 1 ∨ x.Kind = 2 ∨ x.Kind = 3 ∨ x.Kind = 4 ∨ x.Kind = 5 ∨ x.Kind = 6 := by omega
 unfold ref27_Told tl t0
 rcases this with k | k | k | k | k | k <;> simp [k]
section
variable {b : List UInt8}
theorem ploop_list (hb : b.length ≤ 100000000) : ∀ (xs l : List TApiEntry) (q : Nat) (fu mo : Bool),l.length + xs.length ≤ 40 → (∀ x ∈ xs,RightP x ∧ EntrySmall x) → q ≤ b.length → b.drop q = PL xs →
  ∃ (fu' mo' : Bool),ploop b q l fu mo = some (b,(b.length : Int),0,l ++ xs.map tl,fu',mo')
 | [],l,q,fu,mo,hl,hx,hq,h => by
  have hq' : q = b.length := by
   have := congrArg List.length h
   rw [List.length_drop] at this
   have : (PL []).length = 0 := rfl
   omega
  refine ⟨fu,mo,?_⟩
  unfold ploop
  refine loop_end ?_
  show manifest_Parse_l1 b b (q : Int) 0 l fu mo = _
  unfold manifest_Parse_l1
  rw [show ((0 : Int) == 0) = true from rfl,cond_true,decide_eq_false (by omega),cond_false,hq',List.map_nil,List.append_nil]
 | x :: xs,l,q,fu,mo,hl,hx,hq,h => by
  rw [List.length_cons] at hl
  rw [PL_cons] at h
  obtain ⟨h1,h2⟩ := hx x (by simp)
  obtain ⟨q1,f1,m1,g1,g2,g3⟩ := ploop_entry (fu := fu) (mo := mo) hb (l := l) (by omega) h1 (by have := h2.data; omega) (by have := h2.attrs; omega) (fun a ha => by have := (h2.each a ha).value; omega) h
  obtain ⟨f2,m2,i1⟩ := ploop_list hb xs (l ++ [tl x]) q1 f1 m1 (by rw [List.length_append,List.length_cons,List.length_nil]; omega) (fun y hy => hx y (by simp [hy])) g2 g3
  exact ⟨f2,m2,by rw [g1,i1,List.map_cons,List.append_assoc]; rfl⟩
end
theorem ParseF {l : List TApiEntry} (hs : Small l) (hr : ∀ x ∈ l,RightP x) (hp : (PL l).length ≤ 1048576) : manifest_Parse (PL l) = some (l.map tl,0,((PL l).length : Int)) := by
 obtain ⟨f,m,h⟩ := ploop_list (b := PL l) (by omega) l [] 0 false false (by have := hs.len; simpa using this) (fun x hx => ⟨hr x hx,hs.each x hx⟩) (Nat.zero_le _) (by rw [List.drop_zero])
 unfold manifest_Parse
 rw [decide_eq_false (by omega),cond_false]
 have h : loopO (fun s => manifest_Parse_l1 (PL l) s.1 s.2.1 s.2.2.1 s.2.2.2.1 s.2.2.2.2.1 s.2.2.2.2.2) (PL l,0,0,[],false,false) = _ := h
 rw [h,Option.bind_some]
 rfl
theorem printS_PL : ∀ (l : List TApiEntry) (b : List UInt8),b.length ≤ 1048576 → printS b l = ([],2) ∨ printS b l = (b ++ PL l,0) ∧ (b ++ PL l).length ≤ 1048576
 | [],b,hb => .inr ⟨by unfold printS PL; simp,by unfold PL; simpa using hb⟩
 | x :: l,b,hb => by
  unfold printS
  split
  ·exact .inl rfl
  ·rename_i h
   have := printS_PL l (b ++ (lineS x ++ restS x)) (by omega)
   rw [List.append_assoc] at this
   rw [PL_cons]
   exact this
theorem ManifestBack_pure (l : List TApiEntry) (h : (rSl rApiEntry).wf l) (b : List UInt8) (hbw : (rSl rU8).wf b) : law27_ManifestBack l b = some true := by
 unfold law27_ManifestBack
 rw [live27]
 rcases Much_any l with e | ⟨e,hs⟩
 ·rw [e]; rfl
 ·obtain ⟨i1,_⟩ := Print_ok l hs
  rw [e,Option.bind_some,cond_false]
  by_cases hb : b.length ≤ 5000
  ·rw [decide_eq_false (by omega),cond_false,i1,Option.bind_some]
   have second : (Option.bind (manifest_Parse b) fun parse1 =>
     cond ((law27_num parse1.2.1) != 0)
     (cond ((parse1.1.length : Int) == 0) (cond (decide (parse1.2.2 ≥ 0)) (cond (decide (parse1.2.2 ≤ (b.length : Int))) (Option.bind (some true) fun live2 => some live2) (some false)) (some false)) (some false))
     (Option.bind (manifest_Print parse1.1) fun print1 => cond ((law27_num print1.2) == 0) (cond (print1.1 == b) (Option.bind (some true) fun live3 => some live3) (some false)) (some false))) = some true := by
    obtain ⟨r,h1,h2⟩ := ParseT (b := b) (by omega)
    rw [h1,Option.bind_some]
    unfold law27_num
    rcases h2 with ⟨g1,g2,g3,g4⟩ | ⟨g1,g2,g3,g4⟩
    ·rw [show (r.2.1 != 0) = true from by simpa using g1,cond_true,g2,decide_eq_true g3,decide_eq_true g4]
     rfl
    ·have hpw := printW g4 (by rw [← g3]; omega)
     rw [g1,hpw,← g3]
     simp
   have first : ∀ k : Unit → Option Bool,k () = some true → bnd (cond ((law27_num (if l.all ref27_Right then printS [] l else ([],1)).2) == 0)
     (Option.bind (manifest_Parse (if l.all ref27_Right then printS [] l else ([],1)).1) fun parse =>
     cond ((law27_num parse.2.1) != 0) (some (.inr false)) (cond (parse.2.2 != ((if l.all ref27_Right then printS [] l else ([],1)).1.length : Int)) (some (.inr false)) (Option.bind (ref27_Same l parse.1 true) fun same => cond same (some (.inl ())) (some (.inr false)))))
     (cond (((if l.all ref27_Right then printS [] l else ([],1)).1.length : Int) != 0) (some (.inr false)) (some (.inl ())))) k = some true := by
    intro k hk
    unfold law27_num
    cases hr : l.all ref27_Right
    ·exact hk
    ·rw [if_pos rfl]
     rcases printS_PL l [] (by simp) with g | ⟨g,g2⟩
     ·rw [g]; exact hk
     ·rw [List.nil_append] at g g2
      rw [g,show ((0 : Int) == 0) = true from rfl,cond_true,ParseF hs (rightsP hr) g2,Option.bind_some,show ((0 : Int) != 0) = false from rfl,cond_false]
      dsimp only
      rw [show (((PL l).length : Int) != ((PL l).length : Int)) = false from by simp,cond_false,Same27 l tl (fun x hx => Told_tl x (rightsP hr x hx))]
      exact hk
   exact first _ second
  ·rw [decide_eq_true (by omega),cond_true]
   rfl
end Go.Proofs.YtebbaokcgnjfiaaDoor.F
