import Derived.Test.YtebbaokcgnjfiaaDoorLBP
import Derived.Test.YtebbaokcgnjfiaaDoorW
set_option linter.unusedVariables false
set_option linter.unusedSimpArgs false
namespace Go.Proofs.YtebbaokcgnjfiaaDoor.F
open Go Go.RowKit Go.Proofs.YtebbaokcgnjfiaaDoor.K
structure AttrSmall (a : TApiAttr) : Prop where
 name : a.Name.length ≤ 300
 value : a.Value.length ≤ 5000
structure EntrySmall (x : TApiEntry) : Prop where
 data : x.Data.length ≤ 70000
 path : x.Path.length ≤ 5000
 target : x.Target.length ≤ 5000
 attrs : x.Attrs.length ≤ 70
 each : ∀ a ∈ x.Attrs,AttrSmall a
structure Small (l : List TApiEntry) : Prop where
 len : l.length ≤ 40
 each : ∀ x ∈ l,EntrySmall x
theorem much_attrs (x : TApiEntry) : ∀ k t (sum : Int),x.Attrs.length - t = k → t ≤ x.Attrs.length → 0 ≤ sum → sum ≤ 1000000 →
  ∃ r,loopO (fun s => ref11_Much_l2 x s.1 s.2) (sum,t) = some r ∧ (r = .inr (.inr (.inr true)) ∨ ∃ s' : Int,r = .inl s' ∧ 0 ≤ s' ∧ s' ≤ 1000000 ∧ ∀ a ∈ x.Attrs.drop t,AttrSmall a) := by
 intro k
 induction k with
 | zero =>
  intro t sum h1 h2 h3 h4
  have : t = x.Attrs.length := by omega
  subst this
  refine ⟨_,loop_end (r := .inl sum) ?_,.inr ⟨sum,rfl,h3,h4,by simp⟩⟩
  show ref11_Much_l2 x sum x.Attrs.length = _
  unfold ref11_Much_l2
  rw [decide_eq_false (by omega)]
  rfl
 | succ k ih =>
  intro t sum h1 h2 h3 h4
  have hlt : t < x.Attrs.length := by omega
  have hx := List.getElem?_eq_getElem hlt
  obtain ⟨a,ha⟩ : ∃ a,a = x.Attrs[t] := ⟨_,rfl⟩
  rw [← ha] at hx
  have hd : x.Attrs.drop t = a :: x.Attrs.drop (t + 1) := by rw [ha]; exact List.drop_eq_getElem_cons hlt
  have stop : ∀ {r},ref11_Much_l2 x sum t = some (.inr r) → loopO (fun s => ref11_Much_l2 x s.1 s.2) (sum,t) = some r := fun h => loop_end h
  by_cases c1 : a.Name.length ≤ 300
  ·by_cases c2 : a.Value.length ≤ 5000
   ·have e : (IntKind.i64.wrap ((IntKind.i64.wrap (sum + (a.Name.length : Int))) + (a.Value.length : Int))) = sum + a.Name.length + a.Value.length := by
     rw [wI (x := sum + a.Name.length) (by omega),wI (by omega)]
    by_cases c3 : sum + a.Name.length + a.Value.length ≤ 1000000
    ·obtain ⟨r,g1,g2⟩ := ih (t + 1) (sum + a.Name.length + a.Value.length) (by omega) (by omega) (by omega) c3
     refine ⟨r,(loop_next (s' := (sum + a.Name.length + a.Value.length,t + 1)) ?_).trans g1,?_⟩
     ·show ref11_Much_l2 x sum t = _
      unfold ref11_Much_l2
      rw [decide_eq_true (by omega),cond_true,hx,Option.bind_some,e,decide_eq_false (by omega),cond_false,decide_eq_false (by omega),cond_false,decide_eq_false (by omega)]
      rfl
     ·rcases g2 with g2 | ⟨s',g2,g3,g4,g5⟩
      ·exact .inl g2
      ·refine .inr ⟨s',g2,g3,g4,?_⟩
       intro b hb
       rw [hd,List.mem_cons] at hb
       rcases hb with rfl | hb
       ·exact ⟨c1,c2⟩
       ·exact g5 b hb
    ·refine ⟨_,stop ?_,.inl rfl⟩
     unfold ref11_Much_l2
     rw [decide_eq_true (by omega),cond_true,hx,Option.bind_some,e,decide_eq_false (by omega),cond_false,decide_eq_false (by omega),cond_false,decide_eq_true (by omega)]
     rfl
   ·refine ⟨_,stop ?_,.inl rfl⟩
    unfold ref11_Much_l2
    rw [decide_eq_true (by omega),cond_true,hx,Option.bind_some,decide_eq_false (by omega),cond_false,decide_eq_true (by omega)]
    rfl
  ·refine ⟨_,stop ?_,.inl rfl⟩
   unfold ref11_Much_l2
   rw [decide_eq_true (by omega),cond_true,hx,Option.bind_some,decide_eq_true (by omega)]
   rfl
theorem much_list (l : List TApiEntry) : ∀ k t (sum : Int),l.length - t = k → t ≤ l.length → 0 ≤ sum → sum ≤ 1000000 →
  ∃ r,loopO (fun s => ref11_Much_l1 l s.1 s.2) (sum,t) = some r ∧ (r = .inr true ∨ r = .inl () ∧ ∀ x ∈ l.drop t,EntrySmall x) := by
 intro k
 induction k with
 | zero =>
  intro t sum h1 h2 h3 h4
  have : t = l.length := by omega
  subst this
  refine ⟨_,loop_end (r := .inl ()) ?_,.inr ⟨rfl,by simp⟩⟩
  show ref11_Much_l1 l sum l.length = _
  unfold ref11_Much_l1
  rw [decide_eq_false (by omega)]
  rfl
 | succ k ih =>
  intro t sum h1 h2 h3 h4
  have hlt : t < l.length := by omega
  have hx := List.getElem?_eq_getElem hlt
  obtain ⟨x,ha⟩ : ∃ a,a = l[t] := ⟨_,rfl⟩
  rw [← ha] at hx
  have hd : l.drop t = x :: l.drop (t + 1) := by rw [ha]; exact List.drop_eq_getElem_cons hlt
  have stop : ∀ {r},ref11_Much_l1 l sum t = some (.inr r) → loopO (fun s => ref11_Much_l1 l s.1 s.2) (sum,t) = some r := fun h => loop_end h
  by_cases c1 : x.Data.length ≤ 70000
  ·by_cases c2 : x.Path.length ≤ 5000
   ·by_cases c3 : x.Target.length ≤ 5000
    ·by_cases c4 : x.Attrs.length ≤ 70
     ·obtain ⟨r1,g1,g2⟩ := much_attrs x x.Attrs.length 0 sum (by omega) (by omega) h3 h4
      rcases g2 with rfl | ⟨s',rfl,g3,g4,g5⟩
      ·refine ⟨_,stop (r := .inr true) ?_,.inl rfl⟩
       unfold ref11_Much_l1
       rw [decide_eq_true (by omega),cond_true,hx,Option.bind_some,decide_eq_false (by omega),cond_false,decide_eq_false (by omega),cond_false,decide_eq_false (by omega),cond_false,decide_eq_false (by omega),cond_false,g1]
       rfl
      ·obtain ⟨r,k1,k2⟩ := ih (t + 1) s' (by omega) (by omega) g3 g4
       refine ⟨r,(loop_next (s' := (s',t + 1)) ?_).trans k1,?_⟩
       ·show ref11_Much_l1 l sum t = _
        unfold ref11_Much_l1
        rw [decide_eq_true (by omega),cond_true,hx,Option.bind_some,decide_eq_false (by omega),cond_false,decide_eq_false (by omega),cond_false,decide_eq_false (by omega),cond_false,decide_eq_false (by omega),cond_false,g1]
        rfl
       ·rcases k2 with k2 | ⟨k2,k3⟩
        ·exact .inl k2
        ·refine .inr ⟨k2,?_⟩
         intro b hb
         rw [hd,List.mem_cons] at hb
         rcases hb with rfl | hb
         ·exact ⟨c1,c2,c3,c4,g5⟩
         ·exact k3 b hb
     ·refine ⟨_,stop ?_,.inl rfl⟩
      unfold ref11_Much_l1
      rw [decide_eq_true (by omega),cond_true,hx,Option.bind_some,decide_eq_false (by omega),cond_false,decide_eq_false (by omega),cond_false,decide_eq_false (by omega),cond_false,decide_eq_true (by omega)]
      rfl
    ·refine ⟨_,stop ?_,.inl rfl⟩
     unfold ref11_Much_l1
     rw [decide_eq_true (by omega),cond_true,hx,Option.bind_some,decide_eq_false (by omega),cond_false,decide_eq_false (by omega),cond_false,decide_eq_true (by omega)]
     rfl
   ·refine ⟨_,stop ?_,.inl rfl⟩
    unfold ref11_Much_l1
    rw [decide_eq_true (by omega),cond_true,hx,Option.bind_some,decide_eq_false (by omega),cond_false,decide_eq_true (by omega)]
    rfl
  ·refine ⟨_,stop ?_,.inl rfl⟩
   unfold ref11_Much_l1
   rw [decide_eq_true (by omega),cond_true,hx,Option.bind_some,decide_eq_true (by omega)]
   rfl
theorem Much_any (l : List TApiEntry) : ref11_Much l = some true ∨ ref11_Much l = some false ∧ Small l := by
 unfold ref11_Much
 by_cases h : l.length ≤ 40
 ·rw [decide_eq_false (by omega),cond_false]
  obtain ⟨r,h1,h2⟩ := much_list l l.length 0 0 (by omega) (by omega) (by omega) (by omega)
  rw [h1]
  rcases h2 with rfl | ⟨rfl,h2⟩
  ·exact .inl rfl
  ·exact .inr ⟨rfl,h,h2⟩
 ·rw [decide_eq_true (by omega)]
  exact .inl rfl
end Go.Proofs.YtebbaokcgnjfiaaDoor.F
