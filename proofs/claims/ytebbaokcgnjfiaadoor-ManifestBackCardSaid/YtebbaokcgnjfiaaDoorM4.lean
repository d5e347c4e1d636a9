import Derived.Test.YtebbaokcgnjfiaaDoorM2
set_option linter.unusedVariables false
set_option linter.unusedSimpArgs false
set_option linter.unusedSectionVars false
namespace Go.Proofs.YtebbaokcgnjfiaaDoor.K
open Go Go.RowKit
def bigI (its : List Item) : Item where
 P m w F := Sep m w its F
 loc h hk := Sep.loc h hk
 mono hs h := Sep.mono hs h
 dom h := Sep.dom h
def exI {β : Type} (f : β → Item) : Item where
 P m w F := ∃ b,(f b).P m w F
 loc := fun ⟨b,h⟩ hk => ⟨b,(f b).loc h hk⟩
 mono hs := fun ⟨b,h⟩ => ⟨b,(f b).mono hs h⟩
 dom := fun ⟨b,h⟩ => (f b).dom h
def facI (p : Prop) : Item where
 P _ _ F := p ∧ ∀ k,¬ F k
 loc h _ := h
 mono _ h := h
 dom h k hk := (h.2 k hk).elim
section
variable {w0 : World} {F0 : Nat → Prop} {m0 m : Mem} {σ τ : List Item} {w w1 : World}
theorem St.sepr (H : St w0 F0 m0 m σ w) (h : ∀ F,Sep m w σ F → Sep m w τ F) : St w0 F0 m0 m τ w := by
 obtain ⟨F,h1,h2⟩ := H.sep
 exact ⟨H.kp,H.sub,H.has,H.new,F,h F h1,h2⟩
theorem St.big (its : List Item) (H : St w0 F0 m0 m (its ++ σ) w) : St w0 F0 m0 m (bigI its :: σ) w := H.sepr fun F h => Sep.app.1 h
theorem St.unbig {its : List Item} (H : St w0 F0 m0 m (bigI its :: σ) w) : St w0 F0 m0 m (its ++ σ) w := H.sepr fun F h => Sep.app.2 h
theorem St.exi {β : Type} {f : β → Item} (b : β) (H : St w0 F0 m0 m (f b :: σ) w) : St w0 F0 m0 m (exI f :: σ) w :=
 H.sepr fun F ⟨F1,F2,h1,h2⟩ => ⟨F1,F2,⟨b,h1⟩,h2⟩
theorem St.unex {β : Type} {f : β → Item} (H : St w0 F0 m0 m (exI f :: σ) w) : ∃ b,St w0 F0 m0 m (f b :: σ) w := by
 obtain ⟨F,⟨F1,F2,⟨b,h1⟩,h2⟩,h3⟩ := H.sep
 exact ⟨b,H.kp,H.sub,H.has,H.new,F,⟨F1,F2,h1,h2⟩,h3⟩
theorem St.swap (H : St w0 F0 m0 m (σ ++ τ) w) : St w0 F0 m0 m (τ ++ σ) w := H.sepr fun F h => by
 obtain ⟨F1,F2,h1,h2,h3,h4⟩ := Sep.app.1 h
 exact Sep.app.2 ⟨F2,F1,h2,h1,fun k a b => h3 k b a,fun k => (h4 k).trans Or.comm⟩
theorem St.obj {g : Nat} {o : Obj} (H : St w0 F0 m0 m (objI g o :: σ) w) : w.heap[g]? = some o := by
 obtain ⟨F,h1,_⟩ := H.upd 0 rfl
 exact h1.1
theorem kp_putObj (w : World) (g : Nat) (o : Obj) : Kp (fun k => k = g) w (w.putObj g o) :=
 ⟨rfl,rfl,rfl,by simp,fun k _ hk => World.putObj_heap_other hk⟩
theorem St.putObj {g : Nat} {o : Obj} (o' : Obj) (H : St w0 F0 m0 m (objI g o :: σ) w) : St w0 F0 m0 m (objI g o' :: σ) (w.putObj g o') := by
 obtain ⟨F,h1,h2,h3⟩ := H.upd 0 rfl
 exact h3 _ (objI g o') (fun k => k = g) ((kp_putObj w g o').mono (fun k _ e => (h1.2 k).2 e)) ⟨World.putObj_heap_same (blk_lt h1.1),fun k => Iff.rfl⟩ (fun k e => .inl ((h1.2 k).2 e))
theorem St.mark {D : Nat} (H : St w0 F0 m0 m (objI D (.deferred (some [])) :: σ) w) : w.heap[D]? = some (.deferred (some [])) ∧ St w0 F0 m0 m σ (w.putObj D (.deferred none)) :=
 ⟨H.obj,(H.putObj _).drop0⟩
end
def Yld {α σs ρs : Type} (P : Program) (l : Nat) (m : Mem) (im : Mem → Array Value → α → Prop) (X : σs → Item) (Y : ρs → Item) (bd : σs → α → Option (Sum σs ρs)) : Prop :=
 ∀ (s : σs) (x : α) (y : Sum σs ρs) (args : Array Value) (m1 : Mem) (W : World) (F : Nat → Prop),Sub m m1 → Has m1 W → im m1 args x → Sep m1 W [X s] F → (∀ k,F k → m1 k = none) → bd s x = some y →
  ∃ fn tmps assign body,(Instr.yield l args).run P W = .ok (.round l fn tmps assign body) W ∧
   RoundIn (Fr none) 0 P l fn tmps assign body W fun e W' => ∃ m2,e = .returned (.bool y.isLeft) ∧ St W F m1 m2 [Sum.elim X Y y] W'
theorem Yld.sub {α σs ρs : Type} {P : Program} {l : Nat} {m m' : Mem} {im : Mem → Array Value → α → Prop} {X : σs → Item} {Y : ρs → Item} {bd : σs → α → Option (Sum σs ρs)} (h : Yld P l m im X Y bd) (hs : Sub m m') : Yld P l m' im X Y bd :=
 fun s x y args m1 W F h1 => h s x y args m1 W F (hs.trans h1)
section
variable {P : Program} {B : Code} {n : Cx} {p : List Nat} {i : Nat} {κ : Kn} {w : World} {Z : Kn → World → Prop} {w0 : World} {F0 : Nat → Prop} {m0 m m1 : Mem} {σ : List Item}
end
section
variable {P : Program} {B : Code} {Q : Exit → Act → World → Prop} {J : Nat → Act → World → Prop} {N : Nat} {ds : List Nat} {p : List Nat} {k : List It} {κ : Kn} {w : World} {w0 : World} {F0 : Nat → Prop} {m0 m : Mem} {σ : List Item}
end
section
variable {w0 : World} {F0 : Nat → Prop} {m0 m : Mem} {σ : List Item} {w : World}
variable {P : Program} {B : Code} {J : Nat → Act → World → Prop} {n : Cx} {κ : Kn}
end
end Go.Proofs.YtebbaokcgnjfiaaDoor.K
