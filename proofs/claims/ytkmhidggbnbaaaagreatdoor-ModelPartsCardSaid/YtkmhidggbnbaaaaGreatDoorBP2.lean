/- Texts in one: M8 E0 E1 E2 E3 E4. -/
import Derived.Test.YtkmhidggbnbaaaaGreatDoorBP1
set_option linter.unusedVariables false
set_option linter.unusedSimpArgs false
set_option linter.unusedSectionVars false
namespace Go.Proofs.YtkmhidggbnbaaaaGreatDoor.K
open Go Go.RowKit Go.Op
structure ORep (α : Type) where
  fr : Rep α
  it : List Value → α → Item
  len : ∀ {m w F cs x}, (it cs x).P m w F → cs.length = fr.sz
  one : ∀ {m w F cs x}, (it cs x).P m w F → ∀ u ∈ cs, u.oneCell' = true
  fix : ∀ {m m1 : Mem} {w : World} {F cs x}, (it cs x).P m w F → Sub m m1 → (∀ k, F k → m1 k = w.heap[k]?) → fr.im m1 cs x
def rawI (t sz : Nat) (A : Option Addr) (c n : Nat) (xs : List Value) : Item where
  P _ w F := w.ownsRow 0 t sz (.slice A n c) n xs ∧ ∀ k, F k ↔ (Value.slice A n c).ownBlock = some k
  loc := fun ⟨h, hF⟩ hk => ⟨own_loc h (fun k e => hk k ((hF k).2 e)), hF⟩
  mono _ h := h
  dom := fun ⟨h, hF⟩ k hk => own_lt h k ((hF k).1 hk).symm
def els {α : Type} (o : ORep α) (css : List (List Value)) (l : List α) : List Item := (css.zip l).map fun x => o.it x.1 x.2
def rowO {α : Type} (o : ORep α) (t : TypeId) (A : Option Addr) (c : Nat) (l : List α) : Item :=
  exI fun css : List (List Value) => bigI (facI (css.length = l.length) :: rawI t o.fr.sz A c l.length css.flatten :: els o css l)
def holeO {α : Type} (o : ORep α) (t : TypeId) (A : Option Addr) (c : Nat) (l : List α) (i : Nat) (cs : List Value) : Item :=
  exI fun q : List (List Value) × List (List Value) => bigI (facI (q.1.length = i ∧ q.1.length + 1 + q.2.length = l.length ∧ (∀ z ∈ q.1, z.length = o.fr.sz) ∧ cs.length = o.fr.sz) :: rawI t o.fr.sz A c l.length (q.1.flatten ++ (cs ++ q.2.flatten)) :: (els o q.1 (l.take i) ++ els o q.2 (l.drop (i + 1))))
theorem els_app {α : Type} (o : ORep α) {a b : List (List Value)} {l k : List α} (h : a.length = l.length) : els o (a ++ b) (l ++ k) = els o a l ++ els o b k := by
  unfold els
  rw [List.zip_append h, List.map_append]
theorem flat_sz {α : Type} (o : ORep α) {m : Mem} {w : World} : ∀ {css : List (List Value)} {l : List α} {F : Nat → Prop}, css.length = l.length → Sep m w (els o css l) F → ∀ z ∈ css, z.length = o.fr.sz
  | [], _, _, _, _ => by simp
  | z :: css, [], _, h, _ => by simp at h
  | z :: css, x :: l, F, h, ⟨F1, F2, h1, h2, _⟩ => by
    intro y hy
    rcases List.mem_cons.1 hy with rfl | hy
    · exact o.len h1
    · exact flat_sz o (by simpa using h) h2 y hy
theorem flat_lenO {sz : Nat} : ∀ {css : List (List Value)}, (∀ z ∈ css, z.length = sz) → css.flatten.length = css.length * sz
  | [], _ => by simp
  | z :: css, h => by
    rw [List.flatten_cons, List.length_append, h z (by simp), flat_lenO (fun y hy => h y (by simp [hy])), List.length_cons, Nat.add_mul]
    omega
section
variable {w0 : World} {F0 : Nat → Prop} {m0 m : Mem} {σ τ : List Item} {w w1 : World} {α : Type} {o : ORep α}
theorem St.unfac0 {p : Prop} (H : St w0 F0 m0 m (facI p :: σ) w) : p ∧ St w0 F0 m0 m σ w := by
  obtain ⟨F, ⟨F1, F2, h1, h2, h3, h4⟩, h5⟩ := H.sep
  exact ⟨h1.1, H.drop0⟩
theorem St.fac0 {p : Prop} (h : p) (H : St w0 F0 m0 m σ w) : St w0 F0 m0 m (facI p :: σ) w :=
  H.sepr fun F hs => ⟨fun _ => False, F, ⟨h, fun _ e => e⟩, hs, fun _ e => e.elim, fun k => ⟨.inr, fun e => e.elim False.elim id⟩⟩
theorem St.perm (H : St w0 F0 m0 m σ w) (h : σ.Perm τ) : St w0 F0 m0 m τ w := H.sepr fun F hs => by
  have key : ∀ {σ τ : List Item}, σ.Perm τ → ∀ F, Sep m w σ F → Sep m w τ F := by
    intro σ τ h
    induction h with
    | nil => intro F h; exact h
    | cons x _ ih => rintro F ⟨F1, F2, h1, h2, h3⟩; exact ⟨F1, F2, h1, ih F2 h2, h3⟩
    | swap x y l =>
      rintro F ⟨F1, F2, h1, ⟨F3, F4, h2, h3, h4, h5⟩, h6, h7⟩
      refine ⟨F3, fun k => F1 k ∨ F4 k, h2, ⟨F1, F4, h1, h3, fun k a b => h6 k a ((h5 k).2 (.inr b)), fun k => Iff.rfl⟩, ?_, ?_⟩
      · intro k a b
        exact b.elim (fun b => h6 k b ((h5 k).2 (.inl a))) (h4 k a)
      · intro k
        rw [h7, h5, or_left_comm]
    | trans _ _ i1 i2 => intro F h; exact i2 F (i1 F h)
  exact key h F hs
theorem St.openO (H : St w0 F0 m0 m σ w) (n : Nat) {t c : Nat} {A : Option Addr} {l : List α} (hn : σ[n]? = some (rowO o t A c l)) {i : Nat} {x : α} (hx : l[i]? = some x) :
    ∃ cs, St w0 F0 m0 m (o.it cs x :: holeO o t A c l i cs :: σ.eraseIdx n) w := by
  obtain ⟨css, H1⟩ := (H.pull n hn).unex
  obtain ⟨hl, H2⟩ := H1.unbig.unfac0
  have hi := (List.getElem?_eq_some_iff.1 hx).1
  have hxe : l[i] = x := (List.getElem?_eq_some_iff.1 hx).2
  have hic : i < css.length := by omega
  have hsz : ∀ z ∈ css, z.length = o.fr.sz := by
    obtain ⟨F, h1, _⟩ := H2.sep
    obtain ⟨F1, F2, _, h2, _⟩ := (h1 : Sep m w (rawI t o.fr.sz A c l.length css.flatten :: (els o css l ++ σ.eraseIdx n)) F)
    obtain ⟨G1, G2, h3, _⟩ := Sep.app.1 h2
    exact flat_sz o hl h3
  have e1 : css = css.take i ++ (css[i] :: css.drop (i + 1)) := by rw [List.getElem_cons_drop, List.take_append_drop]
  have e2 : l = l.take i ++ (x :: l.drop (i + 1)) := by rw [← hxe, List.getElem_cons_drop, List.take_append_drop]
  refine ⟨css[i], ?_⟩
  have e3 : els o css l = els o (css.take i) (l.take i) ++ (o.it css[i] x :: els o (css.drop (i + 1)) (l.drop (i + 1))) := by
    conv => lhs; rw [e1, e2, els_app o (by rw [List.length_take, List.length_take]; omega)]
    rfl
  have e4 : css.flatten = (css.take i).flatten ++ (css[i] ++ (css.drop (i + 1)).flatten) := by
    conv => lhs; rw [e1]
    rw [List.flatten_append, List.flatten_cons]
  have H2 : St w0 F0 m0 m (rawI t o.fr.sz A c l.length css.flatten :: (els o css l ++ σ.eraseIdx n)) w := H2
  rw [e3, e4] at H2
  refine St.perm (σ := holeO o t A c l i css[i] :: o.it css[i] x :: σ.eraseIdx n) ?_ (List.Perm.swap _ _ _)
  refine St.exi (css.take i, css.drop (i + 1)) (St.big _ ?_)
  refine St.fac0 ⟨by rw [List.length_take]; omega, by rw [List.length_take, List.length_drop]; omega, fun z hz => hsz z (List.mem_of_mem_take hz), hsz _ (List.getElem_mem hic)⟩ ?_
  refine H2.perm (List.Perm.cons _ (?_ : List.Perm _ ((els o (css.take i) (l.take i) ++ els o (css.drop (i + 1)) (l.drop (i + 1))) ++ (o.it css[i] x :: σ.eraseIdx n))))
  simp only [List.append_assoc, List.cons_append]
  refine List.Perm.append_left _ ?_
  exact (List.perm_middle (l₁ := els o (css.drop (i + 1)) (l.drop (i + 1))) (l₂ := σ.eraseIdx n) (a := o.it css[i] x)).symm
theorem St.closeO {t c i : Nat} {A : Option Addr} {l : List α} {cs : List Value} {x' : α} (H : St w0 F0 m0 m (o.it cs x' :: holeO o t A c l i cs :: σ) w) : St w0 F0 m0 m (rowO o t A c (l.set i x') :: σ) w := by
  obtain ⟨⟨q1, q2⟩, H1⟩ := (H.perm (List.Perm.swap _ _ _)).unex
  obtain ⟨⟨h1, h2, h3, h4⟩, H2⟩ := H1.unbig.unfac0
  dsimp only at h1 h2 h3 h4
  have hil : i < l.length := by omega
  refine St.exi (q1 ++ cs :: q2) (St.big _ (St.fac0 (by rw [List.length_set]; simp; omega) ?_))
  have e2 : l.set i x' = l.take i ++ (x' :: l.drop (i + 1)) := by rw [List.set_eq_take_append_cons_drop, if_pos hil]
  have e3 : els o (q1 ++ cs :: q2) (l.set i x') = els o q1 (l.take i) ++ (o.it cs x' :: els o q2 (l.drop (i + 1))) := by
    rw [e2, els_app o (by rw [List.length_take]; omega)]
    rfl
  rw [e3, List.length_set, show (q1 ++ cs :: q2).flatten = q1.flatten ++ (cs ++ q2.flatten) by simp]
  have H2 : St w0 F0 m0 m (rawI t o.fr.sz A c l.length (q1.flatten ++ (cs ++ q2.flatten)) :: ((els o q1 (l.take i) ++ els o q2 (l.drop (i + 1))) ++ (o.it cs x' :: σ))) w := H2
  refine H2.perm (List.Perm.cons _ (?_ : List.Perm _ ((els o q1 (l.take i) ++ (o.it cs x' :: els o q2 (l.drop (i + 1)))) ++ σ)))
  simp only [List.append_assoc, List.cons_append]
  refine List.Perm.append_left _ ?_
  exact List.perm_middle
theorem St.raw {t sz c k : Nat} {A : Option Addr} {xs : List Value} (H : St w0 F0 m0 m (rawI t sz A c k xs :: σ) w) : w.ownsRow 0 t sz (.slice A k c) k xs := by
  obtain ⟨F, h1, _⟩ := H.upd 0 rfl
  exact h1.1
theorem St.holeAt (H : St w0 F0 m0 m σ w) (n : Nat) {t c i : Nat} {A : Option Addr} {l : List α} {cs : List Value} (hn : σ[n]? = some (holeO o t A c l i cs)) (h0 : 0 < o.fr.sz) :
    ∃ ad, A = some ad ∧ cs.length = o.fr.sz ∧ i < l.length ∧ ∀ j v, cs[j]? = some v → w.cell? ((ad.add (i * o.fr.sz)).add j) = some v := by
  obtain ⟨⟨q1, q2⟩, H1⟩ := (H.pull n hn).unex
  obtain ⟨⟨h1, h2, h3, h4⟩, H2⟩ := H1.unbig.unfac0
  dsimp only at h1 h2 h3 h4
  have ho := St.raw (t := t) H2
  have hq := flat_lenO h3
  have hget : ∀ j v, cs[j]? = some v → (q1.flatten ++ (cs ++ q2.flatten))[i * o.fr.sz + j]? = some v := by
    intro j v hj
    have hjl := (List.getElem?_eq_some_iff.1 hj).1
    rw [List.getElem?_append_right (by rw [hq, h1]; omega), hq, h1, List.getElem?_append_left (by omega), show i * o.fr.sz + j - i * o.fr.sz = j by omega]
    exact hj
  obtain ⟨ad, rfl, _, _, _⟩ := Cs.of_own ho _ _ (hget 0 _ (List.getElem?_eq_getElem (by omega)))
  refine ⟨ad, rfl, h4, by omega, fun j v hj => ?_⟩
  obtain ⟨ad', e, _, _, h6⟩ := Cs.of_own ho _ _ (hget j v hj)
  cases e
  rw [add_add]
  exact h6
theorem St.rowOA (H : St w0 F0 m0 m σ w) (n : Nat) {t c i : Nat} {A : Option Addr} {l : List α} (hn : σ[n]? = some (rowO o t A c l)) {x : α} (hx : l[i]? = some x) : ∃ ad, A = some ad := by
  obtain ⟨css, H1⟩ := (H.pull n hn).unex
  obtain ⟨hl, H2⟩ := H1.unbig.unfac0
  have ho := St.raw (t := t) H2
  have hi := (List.getElem?_eq_some_iff.1 hx).1
  rcases ho.2 with ⟨_, h0⟩ | ⟨g, cap, cur, hv, _⟩
  · omega
  · cases hv; exact ⟨_, rfl⟩
theorem St.holeCell (H : St w0 F0 m0 m σ w) (n : Nat) {t c i : Nat} {A : Option Addr} {l : List α} {cs : List Value} (hn : σ[n]? = some (holeO o t A c l i cs)) {ad : Addr} (hA : A = some ad) (h0 : 0 < o.fr.sz) :
    ∀ j v, cs[j]? = some v → w.cell? ((ad.add (i * o.fr.sz)).add j) = some v := by
  obtain ⟨ad', e, _, _, h⟩ := H.holeAt n hn h0
  subst hA
  cases e
  exact h
end
section
variable {P : Program} {B : Code} {n : Cx} {p : List Nat} {i : Nat} {κ : Kn} {w : World} {Z : Kn → World → Prop} {w0 : World} {F0 : Nat → Prop} {m0 m : Mem} {σ : List Item} {α : Type} {o : ORep α}
theorem stHoleS (d : Option Nat) (t : TypeId) (n' i' j q : Nat) (A : Option Addr) (c : Nat) (l : List α) (e : TypeId) (cs : List Value) (v : Value) (ad : Addr) (H : St w0 F0 m0 m σ w) (hn : σ[n']? = some (holeO o e A c l i' cs)) (hA : A = some ad)
    (ho : fetch B n p i κ = some (d, uS (Instr.storeAt t (.pointer (some (ad.add q))) v))) (hq : q = i' * o.fr.sz + j) (ht : oneB P t = true) (hv : v.oneCell' = true) (hj : j < cs.length)
    (hk : ∀ w1, St w0 F0 m0 m (holeO o e A c l i' (cs.set j v) :: σ.eraseIdx n') w1 → Z (putk d undef κ) w1) : Step P B n p i κ w Z := by
  obtain ⟨⟨q1, q2⟩, H1⟩ := (H.pull n' hn).unex
  obtain ⟨⟨h1, h2, h3, h4⟩, H2⟩ := H1.unbig.unfac0
  dsimp only at h1 h2 h3 h4
  have H2 : St w0 F0 m0 m (rawI e o.fr.sz A c l.length (q1.flatten ++ (cs ++ q2.flatten)) :: ((els o q1 (l.take i') ++ els o q2 (l.drop (i' + 1))) ++ σ.eraseIdx n')) w := H2
  obtain ⟨F, ⟨ho1, hF⟩, h5, h6⟩ := H2.upd 0 rfl
  have hql := flat_lenO h3
  subst hq
  refine stOwnR d t 0 e o.fr.sz A l.length c _ ad (i' * o.fr.sz + j) v ho ht hv ho1 hA (by rw [List.length_append, List.length_append, hql, h1]; omega) ?_
  intro w1 hown hkp hz
  have e1 : (q1.flatten ++ (cs ++ q2.flatten)).set (i' * o.fr.sz + j) v = q1.flatten ++ (cs.set j v ++ q2.flatten) := by
    rw [List.set_append_right _ _ (by rw [hql, h1]; omega), hql, h1, show i' * o.fr.sz + j - i' * o.fr.sz = j by omega, List.set_append_left _ _ hj]
  rw [e1] at hown
  have H3 := h6 w1 (rawI e o.fr.sz A c l.length (q1.flatten ++ (cs.set j v ++ q2.flatten))) F (hkp.mono (fun k _ hk => (hF k).2 hk.symm)) ⟨hown, hF⟩ (fun k hk => .inl hk)
  refine hk w1 (St.exi (q1, q2) (St.big _ (St.fac0 ⟨h1, h2, h3, by rw [List.length_set]; exact h4⟩ H3)))
theorem stHole (d : Option Nat) (t : TypeId) (n' i' j : Nat) (A : Option Addr) (c : Nat) (l : List α) (e : TypeId) (cs : List Value) (v : Value) (ad : Addr) (H : St w0 F0 m0 m σ w) (hn : σ[n']? = some (holeO o e A c l i' cs)) (hA : A = some ad)
    (ho : fetch B n p i κ = some (d, uS (Instr.storeAt t (.pointer (some ((ad.add (i' * o.fr.sz)).add j))) v))) (ht : oneB P t = true) (hv : v.oneCell' = true) (hj : j < cs.length)
    (hk : ∀ w1, St w0 F0 m0 m (holeO o e A c l i' (cs.set j v) :: σ.eraseIdx n') w1 → Z (putk d undef κ) w1) : Step P B n p i κ w Z := by
  rw [add_add] at ho
  exact stHoleS d t n' i' j (i' * o.fr.sz + j) A c l e cs v ad H hn hA ho rfl ht hv hj hk
theorem St.nilO (H : St w0 F0 m0 m σ w) {α : Type} (o : ORep α) (t : TypeId) : St w0 F0 m0 m (rowO o t none 0 [] :: σ) w :=
  St.exi [] (St.big _ (St.fac0 rfl (H.add (Kp.refl _ _) (G := fun _ => False) ⟨World.ownsRow_nil _ _ _ _, fun k => ⟨False.elim, fun e => by cases e⟩⟩ (fun _ e => e.elim))))
theorem appOS (d : Option Nat) (t e by_ : Nat) (z : Value) (ty : TypeId) (A X : Option Addr) (c m' c' : Nat) (l y : List α) (x : α) (cs : List Value) {lo hi : Nat} (H : St w0 F0 m0 m (o.it cs x :: rowO o e A c l :: σ) w) (he : elB P t e o.fr.sz by_ z) (hz : z.cells.size = o.fr.sz) (hsz : 0 < o.fr.sz)
    (ho : fetch B n p i κ = some (d, vS (Builtin.append_ #[t, t] ty #[.slice A l.length c, .slice X m' c']))) (hX : Cs lo hi w X cs) (hm : 1 = m') (hy : app l [x] = some y) (hby : 0 < by_) (hby2 : by_ ≤ 1024)
    (hk : ∀ A' c1 w1, St w0 F0 m0 m (rowO o e A' c1 y :: σ) w1 → Z (putk d (.slice A' y.length c1) κ) w1) : Step P B n p i κ w Z := by
  obtain ⟨hb, rfl⟩ := app_some hy
  obtain ⟨css, H1⟩ := (H.perm (List.Perm.swap _ _ _)).unex
  obtain ⟨hl, H2⟩ := H1.unbig.unfac0
  have H2 : St w0 F0 m0 m (rawI e o.fr.sz A c l.length css.flatten :: (els o css l ++ (o.it cs x :: σ))) w := H2
  have hit : cs.length = o.fr.sz ∧ ∀ u ∈ cs, u.oneCell' = true := by
    obtain ⟨F, ⟨F1, F2, h1, _⟩, _⟩ := H.sep
    exact ⟨o.len h1, o.one h1⟩
  obtain ⟨F, ⟨ho1, hF⟩, h5, h6⟩ := H2.upd 0 rfl
  subst hm
  have hlx : (l ++ [x]).length = l.length + 1 := by simp
  refine appR d t e o.fr.sz by_ z ty 0 A X l.length c 1 c' css.flatten cs he hz hsz ho ho1 hX (by rw [hit.1]; omega) hit.2 ?_ hby (Nat.zero_le _) ?_
  · rw [List.length_singleton] at hb
    exact Nat.le_trans (Nat.mul_le_mul hb hby2) (by decide)
  · intro A' c1 w1 hown hkp hblk hc1 hz1
    have H3 := h6 w1 (rawI e o.fr.sz A' c1 (l.length + 1) (css.flatten ++ cs)) (fun k => (Value.slice A' (l.length + 1) c1).ownBlock = some k) (hkp.mono (fun k _ e => (hF k).2 e.symm)) ⟨hown, fun _ => Iff.rfl⟩ (fun k hk => (hblk).elim (fun e => .inl ((hF k).2 (by rw [← e]; exact hk))) (fun e => .inr (by rw [e] at hk; cases hk; exact Nat.le_refl _)))
    rw [← hlx]
    refine hk A' c1 w1 (St.exi (css ++ [cs]) (St.big _ (St.fac0 (by simp; omega) ?_)))
    have e3 : els o (css ++ [cs]) (l ++ [x]) = els o css l ++ [o.it cs x] := by rw [els_app o hl]; rfl
    rw [e3, hlx, show (css ++ [cs]).flatten = css.flatten ++ cs by simp]
    have H3 : St w0 F0 m0 m (rawI e o.fr.sz A' c1 (l.length + 1) (css.flatten ++ cs) :: (els o css l ++ (o.it cs x :: σ))) w1 := H3
    refine H3.perm (List.Perm.cons _ (?_ : List.Perm _ ((els o css l ++ [o.it cs x]) ++ σ)))
    rw [List.append_assoc]
    exact List.Perm.refl _
theorem rowI_fix {α : Type} {r : Rep α} {t : TypeId} {A : Option Addr} {c : Nat} {l : List α} {F : Nat → Prop} {m1 : Mem} (h : (rowI r t A c l).P m w F) (hs : Sub m m1) (hm : ∀ k, F k → m1 k = w.heap[k]?) : SlI r m1 A c l := by
  obtain ⟨⟨xs, h1, ho⟩, hF⟩ := h
  have hc := own_cap ho
  refine ⟨hc.1, hc.2, xs, h1.mono hs, ?_⟩
  intro j u hj
  obtain ⟨ad, e, _, _, hcell⟩ := Cs.of_own ho j u hj
  refine ⟨ad, e, ?_⟩
  subst e
  rcases ho.2 with ⟨hv, h0⟩ | ⟨g, cap, cur, hv, hb, hg, _⟩
  · cases hv
  · cases hv
    have := hm g ((hF g).2 rfl)
    rw [hg] at this
    have hcell : w.cell? ((⟨g, 0, none⟩ : Addr).add j) = some u := hcell
    rw [Addr.add_lit] at hcell ⊢
    simp only [World.cell?, hg] at hcell
    simp only [mc, this]
    exact hcell
theorem rowO_fix {α : Type} {o : ORep α} {t : TypeId} {A : Option Addr} {c : Nat} {l : List α} {F : Nat → Prop} {m1 : Mem} (h : (rowO o t A c l).P m w F) (hs : Sub m m1) (hm : ∀ k, F k → m1 k = w.heap[k]?) : SlI o.fr m1 A c l := by
  obtain ⟨css, F1, F2, ⟨hl, _⟩, ⟨F3, F4, ⟨ho, hF⟩, he, _, h4⟩, _, h6⟩ := h
  have hm4 : ∀ k, F4 k → m1 k = w.heap[k]? := fun k hk => hm k ((h6 k).2 (.inr ((h4 k).2 (.inr hk))))
  have hm3 : ∀ k, F3 k → m1 k = w.heap[k]? := fun k hk => hm k ((h6 k).2 (.inr ((h4 k).2 (.inl hk))))
  have hc := own_cap ho
  have rows : ∀ (css : List (List Value)) (l : List α) (G : Nat → Prop), css.length = l.length → Sep m w (els o css l) G → (∀ k, G k → m1 k = w.heap[k]?) → Rows o.fr m1 css.flatten l := by
    intro css
    induction css with
    | nil =>
      intro l G h _ _
      cases l with
      | nil => rfl
      | cons => simp at h
    | cons cs css ih =>
      intro l G h hsep hG
      cases l with
      | nil => simp at h
      | cons x l =>
        obtain ⟨G1, G2, g1, g2, _, g4⟩ := hsep
        exact ⟨cs, css.flatten, by simp, o.fix g1 hs (fun k hk => hG k ((g4 k).2 (.inl hk))), ih l G2 (by simpa using h) g2 (fun k hk => hG k ((g4 k).2 (.inr hk)))⟩
  refine ⟨hc.1, hc.2, _, rows css l F4 hl he hm4, ?_⟩
  intro j u hj
  obtain ⟨ad, e, _, _, hcell⟩ := Cs.of_own ho j u hj
  refine ⟨ad, e, ?_⟩
  subst e
  rcases ho.2 with ⟨hv, h0⟩ | ⟨g, cap, cur, hv, hb, hg, _⟩
  · cases hv
  · cases hv
    have := hm3 g ((hF g).2 rfl)
    rw [hg] at this
    have hcell : w.cell? ((⟨g, 0, none⟩ : Addr).add j) = some u := hcell
    rw [Addr.add_lit] at hcell ⊢
    simp only [World.cell?, hg] at hcell
    simp only [mc, this]
    exact hcell
theorem St.fixO (H : St w0 F0 m0 m σ w) {α : Type} {o : ORep α} (n : Nat) {A : Option Addr} {c : Nat} {l : List α} {t : TypeId} (hn : σ[n]? = some (rowO o t A c l)) : ∃ m1, Sub m m1 ∧ SlI o.fr m1 A c l ∧ St w0 F0 m0 m1 (σ.eraseIdx n) w := by
  obtain ⟨F, m1, h1, h2, h3, h4⟩ := (H.pull n hn).fix0
  exact ⟨m1, h2, rowO_fix h1 h2 h3, h4⟩
end
end Go.Proofs.YtkmhidggbnbaaaaGreatDoor.K
set_option linter.unusedVariables false
set_option linter.unusedSimpArgs false
set_option linter.unusedSectionVars false
namespace Go.Proofs.YtkmhidggbnbaaaaGreatDoor.K.E
open Go Go.RowKit
structure Deep (α β : Type) (r : Rep α) (rk : Rep β) (off : Nat) where
  getk : α → List β
  setk : α → List β → α
  gs : ∀ x l, getk (setk x l) = l
  ss : ∀ x l l', setk (setk x l) l' = setk x l'
  sg : ∀ x, setk x (getk x) = x
  lt : off < r.sz
  fill : ∀ {m : Mem} {cs : List Value} {x : α} {A : Option Addr} {c : Nat}, r.im m (cs.set off (.slice none 0 0)) (setk x []) → cs[off]? = some (.slice A (getk x).length c) → SlI rk m A c (getk x) → r.im m cs x
  empt : ∀ {m : Mem} {cs : List Value} {x : α}, r.im m cs x → r.im m (cs.set off (.slice none 0 0)) (setk x [])
section
variable {α β : Type} {r : Rep α} {rk : Rep β} {off : Nat}
def But (D : Deep α β r rk off) (m : Mem) (cs : List Value) (x : α) : Prop := r.im m (cs.set off (.slice none 0 0)) (D.setk x [])
theorem But.mono {D : Deep α β r rk off} {m m' : Mem} {cs : List Value} {x : α} (h : But D m cs x) (hs : Sub m m') : But D m' cs x := r.mono hs h
theorem But.len {D : Deep α β r rk off} {m : Mem} {cs : List Value} {x : α} (h : But D m cs x) : cs.length = r.sz := by
  have := r.len h
  rwa [List.length_set] at this
theorem But.one {D : Deep α β r rk off} {m : Mem} {cs : List Value} {x : α} (h : But D m cs x) {v : Value} (hv : cs[off]? = some v) (ho : v.oneCell' = true) : ∀ u ∈ cs, u.oneCell' = true := by
  intro u hu
  obtain ⟨j, hj, rfl⟩ := List.mem_iff_getElem.1 hu
  by_cases e : off = j
  · subst e
    rw [List.getElem?_eq_getElem hj] at hv
    cases hv
    exact ho
  · refine r.one h _ ?_
    rw [List.mem_iff_getElem]
    exact ⟨j, by rw [List.length_set]; exact hj, by rw [List.getElem_set_ne e]⟩
theorem But.set {D : Deep α β r rk off} {m : Mem} {cs : List Value} {x : α} {l : List β} {v : Value} (h : But D m cs x) : But D m (cs.set off v) (D.setk x l) := by
  unfold But at h ⊢
  rw [List.set_set, D.ss]
  exact h
def oD (D : Deep α β r rk off) (tk : TypeId) : ORep α where
  fr := r
  it cs x := {
    P := fun m w F => ∃ A c, cs[off]? = some (.slice A (D.getk x).length c) ∧ But D m cs x ∧ (rowI rk tk A c (D.getk x)).P m w F
    loc := fun ⟨A, c, h1, h2, h3⟩ hk => ⟨A, c, h1, h2, (rowI rk tk A c (D.getk x)).loc h3 hk⟩
    mono := fun hs ⟨A, c, h1, h2, h3⟩ => ⟨A, c, h1, h2.mono hs, (rowI rk tk A c (D.getk x)).mono hs h3⟩
    dom := fun ⟨A, c, h1, h2, h3⟩ => (rowI rk tk A c (D.getk x)).dom h3 }
  len := fun ⟨A, c, h1, h2, h3⟩ => h2.len
  one := fun ⟨A, c, h1, h2, h3⟩ => h2.one h1 rfl
  fix := fun ⟨A, c, h1, h2, h3⟩ hs hm => D.fill (h2.mono hs) h1 (rowI_fix h3 hs hm)
def deepI (D : Deep α β r rk off) (tk t : TypeId) (l : List α) (v : Value) : Item where
  P m w F := ∃ A c, v = .slice A l.length c ∧ (rowO (oD D tk) t A c l).P m w F
  loc := fun ⟨A, c, h1, h2⟩ hk => ⟨A, c, h1, (rowO (oD D tk) t A c l).loc h2 hk⟩
  mono := fun hs ⟨A, c, h1, h2⟩ => ⟨A, c, h1, (rowO (oD D tk) t A c l).mono hs h2⟩
  dom := fun ⟨A, c, h1, h2⟩ => (rowO (oD D tk) t A c l).dom h2
theorem deepI_nil (D : Deep α β r rk off) (tk t : TypeId) {m : Mem} {w : World} : (deepI D tk t [] (.slice none 0 0)).P m w (fun _ => False) :=
  ⟨none, 0, rfl, [], fun _ => False, fun _ => False, ⟨rfl, fun _ e => e⟩, ⟨fun _ => False, fun _ => False, ⟨World.ownsRow_nil _ _ _ _, fun k => ⟨False.elim, fun e => by cases e⟩⟩, fun _ e => e, fun _ e => e.elim, fun k => ⟨False.elim, fun e => e.elim id id⟩⟩, fun _ e => e.elim, fun k => ⟨False.elim, fun e => e.elim id id⟩⟩
def holeI (D : Deep α β r rk off) (tk t : TypeId) (q : List α × Int × α) (v u : Value) : Item where
  P m w F := ∃ A c cs, (v = .slice A q.1.length c ∧ q.1[q.2.1.toNat]? = some q.2.2 ∧ cs[off]? = some u ∧ u.oneCell' = true) ∧ But D m cs q.2.2 ∧ (holeO (oD D tk) t A c q.1 q.2.1.toNat cs).P m w F
  loc := fun ⟨A, c, cs, h1, h2, h3⟩ hk => ⟨A, c, cs, h1, h2, (holeO (oD D tk) t A c q.1 q.2.1.toNat cs).loc h3 hk⟩
  mono := fun hs ⟨A, c, cs, h1, h2, h3⟩ => ⟨A, c, cs, h1, h2.mono hs, (holeO (oD D tk) t A c q.1 q.2.1.toNat cs).mono hs h3⟩
  dom := fun ⟨A, c, cs, h1, h2, h3⟩ => (holeO (oD D tk) t A c q.1 q.2.1.toNat cs).dom h3
end
section
variable {κ β : Type} [BEq κ]
def VRep (r : Rep β) (g : Bool) (m : Mem) (u : Value) (x : β) : Prop := match g with
  | true => ∃ cs : List Value, r.im m cs x ∧ u = .agg cs.toArray
  | false => r.im m [u] x
theorem VRep.mono {r : Rep β} {g : Bool} {m m' : Mem} {u : Value} {x : β} (hs : Sub m m') (h : VRep r g m u x) : VRep r g m' u x := by
  cases g with
  | true => obtain ⟨cs, h1, h2⟩ := h; exact ⟨cs, r.mono hs h1, h2⟩
  | false => exact r.mono hs h
def MVal (r : Rep β) (g : Bool) (wf : κ → Prop) (m : Mem) : List (κ × Value) → List (κ × β) → Prop
  | [], l => l = []
  | (k, u) :: lv, l => ∃ x l', l = (k, x) :: l' ∧ wf k ∧ VRep r g m u x ∧ MVal r g wf m lv l'
section
variable {r : Rep β} {g : Bool} {wf : κ → Prop} {m m' : Mem}
omit [BEq κ] in
theorem MVal.mono (hs : Sub m m') : ∀ {lv : List (κ × Value)} {l : List (κ × β)}, MVal r g wf m lv l → MVal r g wf m' lv l
  | [], _, h => h
  | (k, u) :: lv, _, ⟨x, l', h1, h2, h3, h4⟩ => ⟨x, l', h1, h2, h3.mono hs, MVal.mono hs h4⟩
theorem MVal.get (k : κ) : ∀ {lv : List (κ × Value)} {l : List (κ × β)}, MVal r g wf m lv l → (mget lv k = none ∧ mget l k = none) ∨ ∃ u x, mget lv k = some u ∧ mget l k = some x ∧ VRep r g m u x
  | [], _, h => by rw [show _ = [] from h]; exact .inl ⟨rfl, rfl⟩
  | (k', u) :: lv, _, ⟨x, l', h1, h2, h3, h4⟩ => by
    subst h1
    have ih := h4.get k
    unfold mget at ih ⊢
    rw [List.find?_cons, List.find?_cons]
    cases hb : (k == k')
    · simpa [hb] using ih
    · exact .inr ⟨u, x, by simp [hb], by simp [hb], h3⟩
theorem MVal.put {k : κ} (hk : wf k) {u : Value} {x : β} (hv : VRep r g m u x) : ∀ {lv : List (κ × Value)} {l : List (κ × β)}, MVal r g wf m lv l → MVal r g wf m (mput lv k u) (mput l k x)
  | [], _, h => by rw [show _ = [] from h]; exact ⟨x, [], rfl, hk, hv, rfl⟩
  | (k', u') :: lv, _, ⟨x', l', h1, h2, h3, h4⟩ => by
    subst h1
    unfold mput
    cases hb : (k == k')
    · simp only [hb, Bool.false_eq_true, if_false]
      exact ⟨x', _, rfl, h2, h3, h4.put hk hv⟩
    · simp only [hb, if_true]
      exact ⟨x, l', rfl, hk, hv, h4⟩
end
def mapG (K : Key κ) (wf : κ → Prop) (r : Rep β) (g : Bool) (l : List (κ × β)) (v : Value) : Item where
  P m w F := ∃ b lv, v = .map (some b) ∧ MVal r g wf m lv l ∧ (mapI K id b lv).P m w F
  loc := fun ⟨b, lv, h1, h2, h3⟩ hk => ⟨b, lv, h1, h2, (mapI K id b lv).loc h3 hk⟩
  mono := fun hs ⟨b, lv, h1, h2, h3⟩ => ⟨b, lv, h1, h2.mono hs, (mapI K id b lv).mono hs h3⟩
  dom := fun ⟨b, lv, h1, h2, h3⟩ => (mapI K id b lv).dom h3
def mapF (K : Key κ) (wf : κ → Prop) (r : Rep β) (g : Bool) (m : Mem) (l : List (κ × β)) (v : Value) : Prop :=
  ∃ (b : Nat) (es : Array MapEntry) (clock : Nat) (lv : List (κ × Value)), v = .map (some b) ∧ m b = some (.map es clock) ∧ es.toList.map (fun e => (e.key, e.val)) = lv.map (fun x => (K.fk x.1, id x.2)) ∧ MVal r g wf m lv l
def rMap (K : Key κ) (wf : κ → Prop) (r : Rep β) (g : Bool) : Rep (List (κ × β)) where
  sz := 1
  im m cs x := ∃ v, cs = [v] ∧ mapF K wf r g m x v
  wf _ := True
  mono := fun hs ⟨v, h1, b, es, c, lv, h2, h3, h4, h5⟩ => ⟨v, h1, b, es, c, lv, h2, hs _ _ h3, h4, h5.mono hs⟩
  len := fun ⟨v, h1, _⟩ => by rw [h1]; rfl
  one := fun ⟨v, h1, b, es, c, lv, h2, _⟩ => by subst h1; subst h2; intro u hu; simp only [List.mem_singleton] at hu; subst hu; rfl
end
end Go.Proofs.YtkmhidggbnbaaaaGreatDoor.K.E
set_option linter.unusedVariables false
set_option linter.unusedSimpArgs false
set_option linter.unusedSectionVars false
namespace Go.Proofs.YtkmhidggbnbaaaaGreatDoor.K.E
open Go Go.RowKit
inductive AV (T : Nat → Type) : Type where
  | i64 (x : Int)
  | u8 (x : UInt8)
  | u32 (x : UInt32)
  | u16 (x : UInt16)
  | u64 (x : UInt64)
  | bool (x : Bool)
  | str (l : List UInt8)
  | sl (n : Nat) (l : List (T n))
  | nils
  | nilp
  | one (n : Nat) (x : T n)
  | row (id : Nat)
  | ptr (id off : Nat)
  | elt (id : Nat) (i : Int) (n off : Nat)
  | cells (off : Nat) (l : List (AV T))
  | glob (g : Nat)
  | agg (l : List (AV T))
  | tup (l : List (AV T))
  | fn (f : FuncId) (l c : List (AV T))
  | lit (v : Value)
  | any
structure DP (T : Nat → Type) (rep : ∀ n, Rep (T n)) (k : Nat) where
  n : Nat
  nk : Nat
  t : Nat
  tk : Nat
  off : Nat
  hk : Nat
  D : Deep (T n) (T nk) (rep n) (rep nk) off
  to : T k → List (T n)
  of : List (T n) → T k
  toh : T hk → List (T n) × Int × T n
  ofh : List (T n) × Int × T n → T hk
structure MP (T : Nat → Type) (rep : ∀ n, Rep (T n)) (k : Nat) where
  α : Type
  b : BEq α
  K : @Key α b
  wf : α → Prop
  av : α → AV T
  va : AV T → Option α
  ktd : TypeDesc → Bool
  n : Nat
  g : Bool
  to : T k → List (α × T n)
  of : List (α × T n) → T k
instance {T : Nat → Type} {rep : ∀ n, Rep (T n)} {k : Nat} (d : MP T rep k) : BEq d.α := d.b
structure Tab where
  T : Nat → Type
  rep : ∀ n, Rep (T n)
  ex : ∀ n, T n → List (AV T)
  im : ∀ n, List (AV T) → Option (T n)
  code : TypeId → Option Nat
  gl : Nat → Option ((n : Nat) × List (T n))
  u8c : Nat
  tou8 : ∀ n, List (T n) → Option (List UInt8)
  ofu8 : List UInt8 → List (T u8c)
  gi : ∀ n, T n → Value → Value → Item
  dp : ∀ k, Option (DP T rep k)
  hd : Nat → Option Nat
  mp : ∀ k, Option (MP T rep k)
  gcode : TypeId → Option Nat
mutual
def R (tb : Tab) (η : List Value) (m : Mem) : AV tb.T → Value → Prop
  | .i64 x, v => v = .int .i64 x
  | .u8 x, v => v = .int .u8 (x.toNat : Int)
  | .u32 x, v => v = .int .u32 (x.toNat : Int)
  | .u16 x, v => v = .int .u16 (x.toNat : Int)
  | .u64 x, v => v = .int .u64 (x.toNat : Int)
  | .bool x, v => v = .bool x
  | .str l, v => v = .string ⟨l.toArray⟩ ∧ l.length ≤ 9223372036854775807
  | .sl n l, v => ∃ A c, v = .slice A l.length c ∧ SlI (tb.rep n) m A c l
  | .nils, v => v = .slice none 0 0
  | .nilp, v => v = .pointer none
  | .one n x, v => (tb.rep n).im m [v] x
  | .row id, v => η[id]? = some v ∧ v.oneCell' = true
  | .ptr id off, v => ∃ g, η[id]? = some (.pointer (some ⟨g, 0, none⟩)) ∧ v = .pointer (some ⟨g, off, none⟩)
  | .elt id i n off, v => ∃ (ad : Addr) (len c : Nat), η[id]? = some (.slice (some ad) len c) ∧ 0 ≤ i ∧ i < len ∧ v = .pointer (some ((ad.add (i.toNat * (tb.rep n).sz)).add off))
  | .cells off l, v => ∃ (A : Addr) (cs : List Value), v = .pointer (some (A.add off)) ∧ CsM m (some A) cs ∧ RL tb η m l cs
  | .glob g, v => v = .pointer (some ⟨g, 0, none⟩)
  | .agg l, v => ∃ cs : List Value, v = .agg cs.toArray ∧ RL tb η m l cs
  | .tup l, v => ∃ cs : List Value, v = .tuple cs.toArray ∧ RL tb η m l cs
  | .fn f l c, v => ∃ xs ys : List Value, v = .func (.func f) xs.toArray ys.toArray ∧ RL tb η m l xs ∧ RL tb η m c ys
  | .lit u, v => v = u
  | .any, _ => True
def RL (tb : Tab) (η : List Value) (m : Mem) : List (AV tb.T) → List Value → Prop
  | [], vs => vs = []
  | a :: l, vs => ∃ v r, vs = v :: r ∧ R tb η m a v ∧ RL tb η m l r
end
def Le (η η' : List Value) : Prop := ∀ (i : Nat) (v : Value), η[i]? = some v → η'[i]? = some v
theorem Le.refl (η : List Value) : Le η η := fun _ _ h => h
theorem Le.trans {a b c : List Value} (h : Le a b) (h' : Le b c) : Le a c := fun i v e => h' i v (h i v e)
theorem Le.app (η η' : List Value) : Le η (η ++ η') := fun i v h => by
  rw [List.getElem?_append_left (List.getElem?_eq_some_iff.1 h).1]; exact h
section
variable {tb : Tab}
mutual
theorem R.mono {η η' : List Value} {m m' : Mem} (hη : Le η η') (hm : Sub m m') : ∀ (a : AV tb.T) {v : Value}, R tb η m a v → R tb η' m' a v
  | .i64 _, _, h => h
  | .u8 _, _, h => h
  | .u32 _, _, h => h
  | .u16 _, _, h => h
  | .u64 _, _, h => h
  | .bool _, _, h => h
  | .str _, _, h => h
  | .sl _ _, _, ⟨A, c, h1, h2⟩ => ⟨A, c, h1, h2.mono hm⟩
  | .nils, _, h => h
  | .nilp, _, h => h
  | .one n _, _, h => (tb.rep n).mono hm h
  | .row _, _, ⟨h1, h2⟩ => ⟨hη _ _ h1, h2⟩
  | .ptr _ _, _, ⟨g, h1, h2⟩ => ⟨g, hη _ _ h1, h2⟩
  | .elt _ _ _ _, _, ⟨ad, len, c, h1, h2⟩ => ⟨ad, len, c, hη _ _ h1, h2⟩
  | .cells _ l, _, ⟨A, cs, h1, h2, h3⟩ => ⟨A, cs, h1, h2.mono hm, RL.mono hη hm l h3⟩
  | .glob _, _, h => h
  | .agg l, _, ⟨cs, h1, h3⟩ => ⟨cs, h1, RL.mono hη hm l h3⟩
  | .tup l, _, ⟨cs, h1, h3⟩ => ⟨cs, h1, RL.mono hη hm l h3⟩
  | .fn _ l c, _, ⟨xs, ys, h1, h3, h4⟩ => ⟨xs, ys, h1, RL.mono hη hm l h3, RL.mono hη hm c h4⟩
  | .lit _, _, h => h
  | .any, _, _ => trivial
theorem RL.mono {η η' : List Value} {m m' : Mem} (hη : Le η η') (hm : Sub m m') : ∀ (l : List (AV tb.T)) {vs : List Value}, RL tb η m l vs → RL tb η' m' l vs
  | [], _, h => h
  | a :: l, _, ⟨v, r, h1, h2, h3⟩ => ⟨v, r, h1, R.mono hη hm a h2, RL.mono hη hm l h3⟩
end
theorem take_get {η η0 : List Value} {i : Nat} {v v0 : Value} (h0 : η0[i]? = some v0) (h : η[i]? = some v) : (η.take η0.length)[i]? = some v := by
  rw [List.getElem?_take, if_pos (List.getElem?_eq_some_iff.1 h0).1]; exact h
mutual
theorem R.cut {η η0 : List Value} {m m0 : Mem} : ∀ (a : AV tb.T) {v v0 : Value}, R tb η0 m0 a v0 → R tb η m a v → R tb (η.take η0.length) m a v
  | .i64 _, _, _, _, h => h
  | .u8 _, _, _, _, h => h
  | .u32 _, _, _, _, h => h
  | .u16 _, _, _, _, h => h
  | .u64 _, _, _, _, h => h
  | .bool _, _, _, _, h => h
  | .str _, _, _, _, h => h
  | .sl _ _, _, _, _, h => h
  | .nils, _, _, _, h => h
  | .nilp, _, _, _, h => h
  | .one _ _, _, _, _, h => h
  | .row _, _, _, ⟨h1, _⟩, ⟨k1, k2⟩ => ⟨take_get h1 k1, k2⟩
  | .ptr _ _, _, _, ⟨g, h1, _⟩, ⟨g', k1, k2⟩ => ⟨g', take_get h1 k1, k2⟩
  | .elt _ _ _ _, _, _, ⟨_, _, _, h1, _⟩, ⟨ad, len, c, k1, k2⟩ => ⟨ad, len, c, take_get h1 k1, k2⟩
  | .cells _ l, _, _, ⟨_, _, _, _, h3⟩, ⟨A, cs, k1, k2, k3⟩ => ⟨A, cs, k1, k2, RL.cut l h3 k3⟩
  | .glob _, _, _, _, h => h
  | .agg l, _, _, ⟨_, _, h3⟩, ⟨cs, k1, k3⟩ => ⟨cs, k1, RL.cut l h3 k3⟩
  | .tup l, _, _, ⟨_, _, h3⟩, ⟨cs, k1, k3⟩ => ⟨cs, k1, RL.cut l h3 k3⟩
  | .fn _ l c, _, _, ⟨_, _, _, h3, h4⟩, ⟨xs, ys, k1, k3, k4⟩ => ⟨xs, ys, k1, RL.cut l h3 k3, RL.cut c h4 k4⟩
  | .lit _, _, _, _, h => h
  | .any, _, _, _, _ => trivial
theorem RL.cut {η η0 : List Value} {m m0 : Mem} : ∀ (l : List (AV tb.T)) {vs vs0 : List Value}, RL tb η0 m0 l vs0 → RL tb η m l vs → RL tb (η.take η0.length) m l vs
  | [], _, _, _, h => h
  | a :: l, _, _, ⟨_, _, _, h2, h3⟩, ⟨v, r, k1, k2, k3⟩ => ⟨v, r, k1, R.cut a h2 k2, RL.cut l h3 k3⟩
end
theorem RL.app {η : List Value} {m : Mem} : ∀ {l l' : List (AV tb.T)} {vs vs' : List Value}, RL tb η m l vs → RL tb η m l' vs' → RL tb η m (l ++ l') (vs ++ vs')
  | [], l', vs, vs', h, h' => by rw [show vs = [] from h]; exact h'
  | a :: l, l', vs, vs', ⟨v, r, h1, h2, h3⟩, h' => ⟨v, r ++ vs', by rw [h1]; rfl, h2, h3.app h'⟩
theorem RL.inv {η : List Value} {m : Mem} : ∀ {l l' : List (AV tb.T)} {vs : List Value}, RL tb η m (l ++ l') vs → ∃ v1 v2, vs = v1 ++ v2 ∧ RL tb η m l v1 ∧ RL tb η m l' v2
  | [], l', vs, h => ⟨[], vs, rfl, rfl, h⟩
  | a :: l, l', vs, ⟨v, r, h1, h2, h3⟩ => by
    obtain ⟨v1, v2, rfl, h4, h5⟩ := RL.inv h3
    exact ⟨v :: v1, v2, by rw [h1]; rfl, ⟨v, v1, rfl, h2, h4⟩, h5⟩
theorem RL.len {η : List Value} {m : Mem} : ∀ {l : List (AV tb.T)} {vs : List Value}, RL tb η m l vs → vs.length = l.length
  | [], vs, h => by rw [show vs = [] from h]; rfl
  | a :: l, vs, ⟨v, r, h1, h2, h3⟩ => by rw [h1, List.length_cons, List.length_cons, h3.len]
theorem RL.get {η : List Value} {m : Mem} : ∀ {l : List (AV tb.T)} {vs : List Value} {i : Nat} {a : AV tb.T}, RL tb η m l vs → l[i]? = some a → ∃ v, vs[i]? = some v ∧ R tb η m a v
  | [], vs, i, a, h, hi => by simp at hi
  | b :: l, vs, 0, a, ⟨v, r, h1, h2, h3⟩, hi => by
    simp at hi; subst hi; exact ⟨v, by rw [h1]; rfl, h2⟩
  | b :: l, vs, i + 1, a, ⟨v, r, h1, h2, h3⟩, hi => by
    obtain ⟨u, h4, h5⟩ := h3.get (by simpa using hi)
    exact ⟨u, by rw [h1]; simpa using h4, h5⟩
theorem RL.take {η : List Value} {m : Mem} : ∀ {l : List (AV tb.T)} {vs : List Value} (n : Nat), RL tb η m l vs → RL tb η m (l.take n) (vs.take n)
  | _, _, 0, h => by simp [RL]
  | [], vs, n + 1, h => by rw [show vs = [] from h]; rfl
  | b :: l, vs, n + 1, ⟨v, r, h1, h2, h3⟩ => ⟨v, r.take n, by rw [h1]; rfl, h2, h3.take n⟩
theorem RL.drop {η : List Value} {m : Mem} : ∀ {l : List (AV tb.T)} {vs : List Value} (n : Nat), RL tb η m l vs → RL tb η m (l.drop n) (vs.drop n)
  | _, _, 0, h => by simpa using h
  | [], vs, n + 1, h => by rw [show vs = [] from h]; rfl
  | b :: l, vs, n + 1, ⟨v, r, h1, h2, h3⟩ => by rw [h1]; exact h3.drop n
theorem RL.set {η : List Value} {m : Mem} : ∀ {l : List (AV tb.T)} {vs : List Value} {i : Nat} {a : AV tb.T} {v : Value}, RL tb η m l vs → R tb η m a v → RL tb η m (l.set i a) (vs.set i v)
  | [], vs, i, a, v, h, _ => by rw [show vs = [] from h]; rfl
  | b :: l, vs, 0, a, v, ⟨u, r, h1, h2, h3⟩, hv => ⟨v, r, by rw [h1]; rfl, hv, h3⟩
  | b :: l, vs, i + 1, a, v, ⟨u, r, h1, h2, h3⟩, hv => ⟨u, r.set i v, by rw [h1]; rfl, h2, h3.set hv⟩
theorem RL.one {η : List Value} {m : Mem} {a : AV tb.T} {vs : List Value} (h : RL tb η m [a] vs) : ∃ v, vs = [v] ∧ R tb η m a v := by
  obtain ⟨v, r, h1, h2, h3⟩ := h
  exact ⟨v, by rw [h1, show r = [] from h3], h2⟩
theorem RL.mk1 {η : List Value} {m : Mem} {a : AV tb.T} {v : Value} (h : R tb η m a v) : RL tb η m [a] [v] := ⟨v, [], rfl, h, rfl⟩
end
def oneA {T : Nat → Type} : AV T → Bool
  | .agg _ => false
  | .tup _ => false
  | .any => false
  | .lit v => v.oneCell'
  | _ => true
theorem oneA_ok {tb : Tab} {η : List Value} {m : Mem} {a : AV tb.T} {v : Value} (h : R tb η m a v) (ho : oneA a = true) : v.oneCell' = true := by
  cases a <;> simp only [R] at h <;> simp only [oneA, Bool.false_eq_true] at ho
  case str => rw [h.1]; rfl
  case sl => obtain ⟨A, c, rfl, _⟩ := h; rfl
  case row => exact h.2
  case ptr => obtain ⟨g, _, rfl⟩ := h; rfl
  case elt => obtain ⟨_, _, _, _, _, _, rfl⟩ := h; rfl
  case cells => obtain ⟨A, cs, rfl, _⟩ := h; rfl
  case fn => obtain ⟨xs, ys, rfl, _⟩ := h; rfl
  case lit => rw [h]; exact ho
  case one n x => exact (tb.rep n).one h v (List.mem_singleton.2 rfl)
  all_goals (subst h; rfl)
theorem oneL {tb : Tab} {η : List Value} {m : Mem} : ∀ {l : List (AV tb.T)} {vs : List Value}, RL tb η m l vs → l.all oneA = true → vs.all (·.oneCell') = true
  | [], vs, h, _ => by rw [show vs = [] from h]; rfl
  | a :: l, vs, ⟨v, r, h1, h2, h3⟩, ho => by
    rw [List.all_cons, Bool.and_eq_true] at ho
    rw [h1, List.all_cons, oneA_ok h2 ho.1, oneL h3 ho.2]
    rfl
def lk {α : Type} : List (Nat × Nat × α) → Nat → Option (Nat × α)
  | [], _ => none
  | (i, st, v) :: r, t => cond (Nat.beq i t) (some (st, v)) (lk r t)
def del {α : Type} : List (Nat × Nat × α) → Nat → List (Nat × Nat × α)
  | [], _ => []
  | (i, st, v) :: r, t => cond (Nat.beq i t) (del r t) ((i, st, v) :: del r t)
def sto {α : Type} (l : List (Nat × Nat × α)) (t st : Nat) (v : α) : List (Nat × Nat × α) := (t, st, v) :: del l t
theorem beq_t {a b : Nat} (h : Nat.beq a b = true) : a = b := Nat.eq_of_beq_eq_true h
inductive DI (T : Nat → Type) : Type where
  | blk (t : TypeId) (c : List (AV T))
  | row (n t : Nat) (l : List (T n))
  | lit (t : TypeId) (k : Nat) (c : List (AV T))
  | kep (t : TypeId) (c : List (AV T)) (j : Nat)
  | gen (n : Nat) (x : T n) (j : Nat)
abbrev Sg (T : Nat → Type) := List (Nat × Nat × DI T)
def DI.item (tb : Tab) (η : List Value) (id : Nat) : DI tb.T → Item
  | .blk t c => {
    P := fun m w F => ∃ (g : Nat) (cs : List Value), η[id]? = some (.pointer (some ⟨g, 0, none⟩)) ∧ RL tb η m c cs ∧ (blkI g cs t).P m w F
    loc := fun ⟨g, cs, h1, h2, h3⟩ hk => ⟨g, cs, h1, h2, (blkI g cs t).loc h3 hk⟩
    mono := fun hs ⟨g, cs, h1, h2, h3⟩ => ⟨g, cs, h1, RL.mono (Le.refl _) hs c h2, (blkI g cs t).mono hs h3⟩
    dom := fun ⟨g, cs, h1, h2, h3⟩ => (blkI g cs t).dom h3 }
  | .row n t l => {
    P := fun m w F => ∃ (A : Option Addr) (c : Nat), η[id]? = some (.slice A l.length c) ∧ (rowI (tb.rep n) t A c l).P m w F
    loc := fun ⟨A, c, h1, h3⟩ hk => ⟨A, c, h1, (rowI (tb.rep n) t A c l).loc h3 hk⟩
    mono := fun hs ⟨A, c, h1, h3⟩ => ⟨A, c, h1, (rowI (tb.rep n) t A c l).mono hs h3⟩
    dom := fun ⟨A, c, h1, h3⟩ => (rowI (tb.rep n) t A c l).dom h3 }
  | .lit t k c => {
    P := fun m w F => ∃ (g : Nat) (cs : List Value), η[id]? = some (.slice (some ⟨g, 0, none⟩) k k) ∧ RL tb η m c cs ∧ (blkI g cs t).P m w F
    loc := fun ⟨g, cs, h1, h2, h3⟩ hk => ⟨g, cs, h1, h2, (blkI g cs t).loc h3 hk⟩
    mono := fun hs ⟨g, cs, h1, h2, h3⟩ => ⟨g, cs, h1, RL.mono (Le.refl _) hs c h2, (blkI g cs t).mono hs h3⟩
    dom := fun ⟨g, cs, h1, h2, h3⟩ => (blkI g cs t).dom h3 }
  | .kep t c j => {
    P := fun m w F => ∃ (g : Nat) (cs : List Value), (η[id]? = some (.pointer (some ⟨g, 0, none⟩)) ∧ η[j]? = some (.agg cs.toArray)) ∧ RL tb η m c cs ∧ (blkI g cs t).P m w F
    loc := fun ⟨g, cs, h1, h2, h3⟩ hk => ⟨g, cs, h1, h2, (blkI g cs t).loc h3 hk⟩
    mono := fun hs ⟨g, cs, h1, h2, h3⟩ => ⟨g, cs, h1, RL.mono (Le.refl _) hs c h2, (blkI g cs t).mono hs h3⟩
    dom := fun ⟨g, cs, h1, h2, h3⟩ => (blkI g cs t).dom h3 }
  | .gen n x j => {
    P := fun m w F => ∃ v u : Value, (η[id]? = some v ∧ η[j]? = some u) ∧ v.oneCell' = true ∧ (tb.gi n x v u).P m w F
    loc := fun ⟨v, u, h1, h2, h3⟩ hk => ⟨v, u, h1, h2, (tb.gi n x v u).loc h3 hk⟩
    mono := fun hs ⟨v, u, h1, h2, h3⟩ => ⟨v, u, h1, h2, (tb.gi n x v u).mono hs h3⟩
    dom := fun ⟨v, u, h1, h2, h3⟩ => (tb.gi n x v u).dom h3 }
def its (tb : Tab) (η : List Value) (σ : Sg tb.T) : List Item := σ.map fun e => e.2.2.item tb η e.1
section
variable {tb : Tab} {η η' : List Value} {m m' : Mem} {w : World}
theorem item_le (hη : Le η η') (id : Nat) (x : DI tb.T) {F : Nat → Prop} (h : (x.item tb η id).P m w F) : (x.item tb η' id).P m w F := by
  cases x with
  | blk t c => obtain ⟨g, cs, h1, h2, h3⟩ := h; exact ⟨g, cs, hη _ _ h1, RL.mono hη (Sub.refl _) c h2, h3⟩
  | row n t l => obtain ⟨A, c, h1, h3⟩ := h; exact ⟨A, c, hη _ _ h1, h3⟩
  | lit t k c => obtain ⟨g, cs, h1, h2, h3⟩ := h; exact ⟨g, cs, hη _ _ h1, RL.mono hη (Sub.refl _) c h2, h3⟩
  | kep t c j => obtain ⟨g, cs, ⟨h1, h4⟩, h2, h3⟩ := h; exact ⟨g, cs, ⟨hη _ _ h1, hη _ _ h4⟩, RL.mono hη (Sub.refl _) c h2, h3⟩
  | gen n x j => obtain ⟨v, u, ⟨h1, h4⟩, h2, h3⟩ := h; exact ⟨v, u, ⟨hη _ _ h1, hη _ _ h4⟩, h2, h3⟩
theorem its_le (hη : Le η η') : ∀ (σ : Sg tb.T) {F : Nat → Prop}, Sep m w (its tb η σ) F → Sep m w (its tb η' σ) F
  | [], _, h => h
  | (id, st, x) :: r, F, ⟨F1, F2, h1, h2, h3, h4⟩ => ⟨F1, F2, item_le hη id x h1, its_le hη r h2, h3, h4⟩
theorem its_app (σ τ : Sg tb.T) : its tb η (σ ++ τ) = its tb η σ ++ its tb η τ := by unfold its; exact List.map_append
theorem its_del : ∀ (σ : Sg tb.T) (id : Nat) {F : Nat → Prop}, Sep m w (its tb η σ) F → ∃ F', (∀ k, F' k → F k) ∧ Sep m w (its tb η (del σ id)) F'
  | [], _, F, h => ⟨F, fun _ e => e, h⟩
  | (i, st, x) :: r, id, F, ⟨F1, F2, h1, h2, h3, h4⟩ => by
    obtain ⟨F', k1, k2⟩ := its_del r id h2
    simp only [del]
    cases Nat.beq i id with
    | true => exact ⟨F', fun k e => (h4 k).2 (.inr (k1 k e)), k2⟩
    | false => exact ⟨fun k => F1 k ∨ F' k, fun k e => (h4 k).2 (e.elim .inl (fun e => .inr (k1 k e))), F1, F', h1, k2, fun k a b => h3 k a (k1 k b), fun k => Iff.rfl⟩
theorem Sep_lk : ∀ {σ : Sg tb.T} {id : Nat} {p : Nat × DI tb.T}, lk σ id = some p → ∀ {F : Nat → Prop}, Sep m w (its tb η σ) F → ∃ F1 F2, (p.2.item tb η id).P m w F1 ∧ Sep m w (its tb η (del σ id)) F2 ∧ (∀ k, F1 k → F2 k → False) ∧ ∀ k, F1 k ∨ F2 k → F k
  | [], _, _, h, _, _ => by cases h
  | (i, st, x) :: r, id, p, h, F, ⟨F1, F2, h1, h2, h3, h4⟩ => by
    simp only [lk] at h
    simp only [del]
    cases hb : Nat.beq i id with
    | true =>
      rw [hb] at h
      have := beq_t hb
      subst this
      cases h
      obtain ⟨F', k1, k2⟩ := its_del r i h2
      exact ⟨F1, F', h1, k2, fun k a b => h3 k a (k1 k b), fun k e => (h4 k).2 (e.elim .inl (fun e => .inr (k1 k e)))⟩
    | false =>
      rw [hb] at h
      obtain ⟨G1, G2, k1, k2, k3, k4⟩ := Sep_lk (σ := r) h h2
      exact ⟨G1, fun k => F1 k ∨ G2 k, k1, ⟨F1, G2, h1, k2, fun k a b => h3 k a (k4 k (.inr b)), fun k => Iff.rfl⟩, fun k a b => b.elim (fun b => h3 k b (k4 k (.inl a))) (k3 k a),
        fun k e => (h4 k).2 (e.elim (fun e => .inr (k4 k (.inl e))) (fun e => e.elim .inl (fun e => .inr (k4 k (.inr e)))))⟩
end
end Go.Proofs.YtkmhidggbnbaaaaGreatDoor.K.E
set_option linter.unusedVariables false
set_option linter.unusedSimpArgs false
set_option linter.unusedSectionVars false
namespace Go.Proofs.YtkmhidggbnbaaaaGreatDoor.K.E
open Go Go.RowKit
inductive Sh where
  | i64 | u8 | u16 | u32 | u64 | bool | str | nilp | nl
  | sl (n : Nat)
  | row (n t : Nat)
  | own (t : Nat) (s : Sh)
  | agg (s : Sh)
  | fn (f k : Nat) (s : Sh)
  | alt (a b : Sh)
  | lit (l : List UInt8)
  | pt (n : Nat)
  | gen (n : Nat)
  | nil
  | cons (h r : Sh)
def Sh.isNil : Sh → Bool
  | .nil => true
  | _ => false
def Sh.ty (T : Nat → Type) : Sh → Type
  | .i64 => Int
  | .u8 => UInt8
  | .u32 => UInt32
  | .u16 => UInt16
  | .u64 => UInt64
  | .bool => Bool
  | .str => List UInt8
  | .nilp => Unit
  | .nl => Unit
  | .sl n => List (T n)
  | .row n _ => List (T n)
  | .own _ s => s.ty T
  | .agg s => s.ty T
  | .fn _ _ s => s.ty T
  | .alt a b => a.ty T ⊕ b.ty T
  | .lit _ => Unit
  | .pt n => T n
  | .gen n => T n
  | .nil => Unit
  | .cons h r => cond r.isNil (h.ty T) (h.ty T × r.ty T)
def castL {T : Nat → Type} (n n' : Nat) (l : List (T n')) : Option (List (T n)) := match Nat.decEq n' n with
  | isTrue h => some (h ▸ l)
  | isFalse _ => none
def castT {T : Nat → Type} (n n' : Nat) (x : T n') : Option (T n) := match Nat.decEq n' n with
  | isTrue h => some (h ▸ x)
  | isFalse _ => none
theorem castT_some {T : Nat → Type} {n n' : Nat} {l : T n'} {x : T n} (h : castT n n' l = some x) : ∃ e : n' = n, x = e ▸ l := by
  unfold castT at h
  split at h
  · rename_i e _; cases h; exact ⟨e, rfl⟩
  · cases h
theorem castL_some {T : Nat → Type} {n n' : Nat} {l : List (T n')} {x : List (T n)} (h : castL n n' l = some x) : ∃ e : n' = n, x = e ▸ l := by
  unfold castL at h
  split at h
  · rename_i e _; cases h; exact ⟨e, rfl⟩
  · cases h
section
variable (tb : Tab)
def imL (n sz : Nat) : Nat → List (AV tb.T) → Option (List (tb.T n))
  | 0, cs => match cs with
    | [] => some []
    | _ => none
  | k + 1, cs => match tb.im n (cs.take sz) with
    | some x => match imL n sz k (cs.drop sz) with
      | some r => some (x :: r)
      | none => none
    | none => none
def pkC {A B X : Type} (i : Bool) (f : Option (A × X)) (e : Bool) (g : X → Option (B × X)) : Option (cond i A (A × B) × X) := match f with
  | none => none
  | some (x, σ) => match i with
    | true => cond e (some (x, σ)) none
    | false => match g σ with
      | none => none
      | some (y, σ') => some ((x, y), σ')
def pkOwn {X : Type} (t : Nat) (as : List (AV tb.T)) (σ : Sg tb.T) (g : List (AV tb.T) → Sg tb.T → Option X) : Option X := match as with
  | [.ptr id off] => cond (Nat.beq off 0) (match lk σ id with
    | some (_, .blk t' c) => cond (Nat.beq t' t) (g c (del σ id)) none
    | _ => none) none
  | _ => none
def pkAgg {X : Type} (as : List (AV tb.T)) (g : List (AV tb.T) → Option X) : Option X := match as with
  | [.agg c] => g c
  | _ => none
def pkFn {X : Type} (f k : Nat) (as : List (AV tb.T)) (g : List (AV tb.T) → Option X) : Option X := match as with
  | [.fn f' l c] => cond (Nat.beq f' f && Nat.beq l.length k) (g (l ++ c)) none
  | _ => none
def pkCons {A B : Type} (i : Bool) (as : List (AV tb.T)) (σ : Sg tb.T) (f : List (AV tb.T) → Sg tb.T → Option (A × Sg tb.T)) (g : List (AV tb.T) → Sg tb.T → Option (B × Sg tb.T)) : Option (cond i A (A × B) × Sg tb.T) := match as with
  | [] => none
  | a :: as => pkC i (f [a] σ) as.isEmpty (fun σ => g as σ)
theorem pkOwn_some {X : Type} {t : Nat} {as : List (AV tb.T)} {σ : Sg tb.T} {g : List (AV tb.T) → Sg tb.T → Option X} {y : X} (h : pkOwn tb t as σ g = some y) : ∃ id st c, as = [.ptr id 0] ∧ lk σ id = some (st, .blk t c) ∧ g c (del σ id) = some y := by
  unfold pkOwn at h
  split at h
  · rename_i id off
    cases ho : Nat.beq off 0 with
    | false => rw [ho] at h; cases h
    | true =>
      have := beq_t ho
      subst this
      rw [ho] at h
      simp only [cond_true] at h
      split at h
      · rename_i st t' c hl
        cases hb : Nat.beq t' t with
        | false => rw [hb] at h; cases h
        | true =>
          have := beq_t hb
          subst this
          rw [hb] at h
          exact ⟨id, st, c, rfl, hl, h⟩
      · cases h
  · cases h
theorem pkAgg_some {X : Type} {as : List (AV tb.T)} {g : List (AV tb.T) → Option X} {y : X} (h : pkAgg tb as g = some y) : ∃ c, as = [.agg c] ∧ g c = some y := by
  unfold pkAgg at h
  split at h
  · exact ⟨_, rfl, h⟩
  · cases h
theorem pkFn_some {X : Type} {f k : Nat} {as : List (AV tb.T)} {g : List (AV tb.T) → Option X} {y : X} (h : pkFn tb f k as g = some y) : ∃ l c, as = [.fn f l c] ∧ l.length = k ∧ g (l ++ c) = some y := by
  unfold pkFn at h
  split at h
  · rename_i f' l c
    cases hb : (Nat.beq f' f && Nat.beq l.length k) with
    | false => rw [hb] at h; cases h
    | true =>
      have hb2 := hb
      rw [Bool.and_eq_true] at hb2
      have := beq_t hb2.1
      subst this
      rw [hb] at h
      exact ⟨l, c, rfl, beq_t hb2.2, h⟩
  · cases h
theorem pkCons_some {A B : Type} {i : Bool} {as : List (AV tb.T)} {σ : Sg tb.T} {f : List (AV tb.T) → Sg tb.T → Option (A × Sg tb.T)} {g : List (AV tb.T) → Sg tb.T → Option (B × Sg tb.T)} {y : cond i A (A × B) × Sg tb.T} (h : pkCons tb i as σ f g = some y) :
    ∃ a r, as = a :: r ∧ pkC i (f [a] σ) r.isEmpty (fun σ => g r σ) = some y := by
  unfold pkCons at h
  split at h
  · cases h
  · exact ⟨_, _, rfl, h⟩
def pkAlt {A B X : Type} (f : Option (A × X)) (g : Unit → Option (B × X)) : Option ((A ⊕ B) × X) := match f with
  | some (x, σ) => some (.inl x, σ)
  | none => match g () with
    | some (x, σ) => some (.inr x, σ)
    | none => none
theorem pkAlt_some {A B X : Type} {f : Option (A × X)} {g : Unit → Option (B × X)} {y : (A ⊕ B) × X} (h : pkAlt f g = some y) : (∃ x, f = some (x, y.2) ∧ y.1 = .inl x) ∨ ∃ x, g () = some (x, y.2) ∧ y.1 = .inr x := by
  unfold pkAlt at h
  split at h
  · cases h; exact .inl ⟨_, rfl, rfl⟩
  · split at h
    · rename_i e; cases h; exact .inr ⟨_, e, rfl⟩
    · cases h
def pkPt (n : Nat) (as : List (AV tb.T)) (σ : Sg tb.T) : Option (tb.T n × Sg tb.T) := match as with
  | [.cells off l] => cond (Nat.beq off 0) (match tb.im n l with
    | some x => some (x, σ)
    | none => none) none
  | _ => none
theorem pkPt_some {n : Nat} {as : List (AV tb.T)} {σ : Sg tb.T} {y : tb.T n × Sg tb.T} (h : pkPt tb n as σ = some y) : ∃ l, as = [.cells 0 l] ∧ tb.im n l = some y.1 ∧ y.2 = σ := by
  unfold pkPt at h
  split at h
  · rename_i off l
    cases hb : Nat.beq off 0 with
    | false => rw [hb] at h; cases h
    | true =>
      have := beq_t hb
      subst this
      rw [hb] at h
      simp only [cond_true] at h
      split at h
      · rename_i e; cases h; exact ⟨l, rfl, e, rfl⟩
      · cases h
  · cases h
def castE {T : Nat → Type} (n n' : Nat) (x : T n') : Option (T n) := match Nat.decEq n' n with
  | isTrue h => some (h ▸ x)
  | isFalse _ => none
theorem castE_some {T : Nat → Type} {n n' : Nat} {y : T n'} {x : T n} (h : castE n n' y = some x) : ∃ e : n' = n, x = e ▸ y := by
  unfold castE at h
  split at h
  · rename_i e _; cases h; exact ⟨e, rfl⟩
  · cases h
def pkGen (n : Nat) (as : List (AV tb.T)) (σ : Sg tb.T) : Option (tb.T n × Sg tb.T) := match as with
  | [.row id] => match lk σ id with
    | some (_, .gen n' x j) => cond (Nat.beq j id) (match castE n n' x with
      | some x => some (x, del σ id)
      | none => none) none
    | _ => none
  | [.nils] => match tb.dp n with
    | some d => some (d.of [], σ)
    | none => none
  | _ => none
theorem pkGen_some {n : Nat} {as : List (AV tb.T)} {σ : Sg tb.T} {y : tb.T n × Sg tb.T} (h : pkGen tb n as σ = some y) : (∃ id st, as = [.row id] ∧ lk σ id = some (st, .gen n y.1 id) ∧ y.2 = del σ id) ∨ ∃ d, as = [.nils] ∧ tb.dp n = some d ∧ y.1 = d.of [] ∧ y.2 = σ := by
  unfold pkGen at h
  split at h
  · rename_i id
    split at h
    · rename_i st n' x j hl
      cases hb : Nat.beq j id with
      | false => rw [hb] at h; cases h
      | true =>
        have := beq_t hb
        subst this
        rw [hb] at h
        simp only [cond_true] at h
        split at h
        · rename_i x' hx
          obtain ⟨e, rfl⟩ := castE_some hx
          subst e
          cases h
          exact .inl ⟨j, st, rfl, hl, rfl⟩
        · cases h
    · cases h
  · split at h
    · rename_i d hd; cases h; exact .inr ⟨d, rfl, hd, rfl, rfl⟩
    · cases h
  · cases h
def pk : (sh : Sh) → List (AV tb.T) → Sg tb.T → Option (sh.ty tb.T × Sg tb.T)
  | .i64, as, σ => match as with | [.i64 x] => some (x, σ) | _ => none
  | .u8, as, σ => match as with | [.u8 x] => some (x, σ) | _ => none
  | .u32, as, σ => match as with | [.u32 x] => some (x, σ) | _ => none
  | .u16, as, σ => match as with | [.u16 x] => some (x, σ) | _ => none
  | .u64, as, σ => match as with | [.u64 x] => some (x, σ) | _ => none
  | .bool, as, σ => match as with | [.bool x] => some (x, σ) | _ => none
  | .str, as, σ => match as with | [.str x] => some (x, σ) | _ => none
  | .nilp, as, σ => match as with | [.nilp] => some ((), σ) | _ => none
  | .nl, as, σ => match as with | [.nils] => some ((), σ) | _ => none
  | .sl n, as, σ => match as with
    | [.sl n' l] => match castL n n' l with | some x => some (x, σ) | none => none
    | [.nils] => some ([], σ)
    | _ => none
  | .row n t, as, σ => match as with
    | [.row id] => match lk σ id with
      | some (_, .row n' t' l) => cond (Nat.beq t' t) (match castL n n' l with | some x => some (x, del σ id) | none => none) none
      | some (_, .lit t' k c) => cond (Nat.beq t' t && Nat.ble k 137438953472) (match imL tb n (tb.rep n).sz k c with | some x => some (x, del σ id) | none => none) none
      | _ => none
    | [.nils] => some ([], σ)
    | _ => none
  | .own t s, as, σ => pkOwn tb t as σ (pk s)
  | .agg s, as, σ => pkAgg tb as (fun c => pk s c σ)
  | .fn f k s, as, σ => pkFn tb f k as (fun c => pk s c σ)
  | .alt a b, as, σ => pkAlt (pk a as σ) (fun _ => pk b as σ)
  | .lit l, as, σ => match as with | [.str x] => cond (x == l) (some ((), σ)) none | _ => none
  | .pt n, as, σ => pkPt tb n as σ
  | .gen n, as, σ => pkGen tb n as σ
  | .nil, as, σ => match as with | [] => some ((), σ) | _ => none
  | .cons h r, as, σ => pkCons tb r.isNil as σ (pk h) (pk r)
abbrev Up (T : Nat → Type) := List (AV T) × Sg T × Nat
def upC {A B : Type} {T : Nat → Type} (i : Bool) (f : A → Nat → Up T) (g : B → Nat → Up T) (x : cond i A (A × B)) (c : Nat) : Up T := match i, x with
  | true, x => f x c
  | false, (x, y) => match f x c with
    | (as, σ, c) => match g y c with
      | (bs, σ', c) => (as ++ bs, σ ++ σ', c)
def up (st : Nat) : (sh : Sh) → sh.ty tb.T → Nat → Up tb.T
  | .i64, x, c => ([.i64 x], [], c)
  | .u8, x, c => ([.u8 x], [], c)
  | .u32, x, c => ([.u32 x], [], c)
  | .u16, x, c => ([.u16 x], [], c)
  | .u64, x, c => ([.u64 x], [], c)
  | .bool, x, c => ([.bool x], [], c)
  | .str, x, c => ([.str x], [], c)
  | .nilp, _, c => ([.nilp], [], c)
  | .nl, _, c => ([.nils], [], c)
  | .sl n, x, c => ([.sl n x], [], c)
  | .row n t, x, c => ([.row c], [(c, st, .row n t x)], c + 1)
  | .own t s, x, c => match up st s x (c + 1) with
    | (as, σ, c') => ([.ptr c 0], (c, st, .blk t as) :: σ, c')
  | .agg s, x, c => match up st s x c with
    | (as, σ, c') => ([.agg as], σ, c')
  | .fn f k s, x, c => match up st s x c with
    | (as, σ, c') => ([.fn f (as.take k) (as.drop k)], σ, c')
  | .alt a b, x, c => match x with
    | .inl y => up st a y c
    | .inr y => up st b y c
  | .lit l, _, c => ([.str l], [], c)
  | .pt n, x, c => ([.cells 0 (tb.ex n x)], [], c)
  | .gen n, x, c => ([.row c], [(c, st, .gen n x c)], c + 1)
  | .nil, _, c => ([], [], c)
  | .cons h r, x, c => upC r.isNil (up st h) (up st r) x c
end
structure KindOk (tb : Tab) : Prop where
  dgi : ∀ {k : Nat} {d : DP tb.T tb.rep k}, tb.dp k = some d → (∀ x v u, tb.gi k x v u = deepI d.D d.tk d.t (d.to x) v) ∧ (∀ x v u, tb.gi d.hk x v u = holeI d.D d.tk d.t (d.toh x) v u) ∧ (∀ l, d.to (d.of l) = l) ∧ ∀ q, d.toh (d.ofh q) = q
  mgi : ∀ {k : Nat} {d : MP tb.T tb.rep k}, tb.mp k = some d → (∀ x v u, tb.gi k x v u = @mapG d.α (tb.T d.n) d.b d.K d.wf (tb.rep d.n) d.g (d.to x) v) ∧ (∀ l, d.to (d.of l) = l) ∧ (∀ (η : List Value) (m : Mem) (a : AV tb.T) (x : d.α) (v : Value), d.va a = some x → R tb η m a v → v = d.K.fk x ∧ d.wf x) ∧
    (∀ (η : List Value) (m : Mem) (x : d.α), d.wf x → R tb η m (d.av x) (d.K.fk x)) ∧ ∀ td, d.ktd td = true → td = d.K.td
  mre : ∀ {k : Nat} {d : MP tb.T tb.rep k}, tb.mp k = some d → ∀ (m : Mem) (v : Value) (x : tb.T k), (tb.rep k).im m [v] x ↔ @mapF d.α (tb.T d.n) d.b d.K d.wf (tb.rep d.n) d.g m (d.to x) v
structure TabOk (tb : Tab) : Prop where
  im : ∀ {n : Nat} {as : List (AV tb.T)} {x : tb.T n} {η : List Value} {m : Mem} {vs : List Value}, tb.im n as = some x → RL tb η m as vs → (tb.rep n).im m vs x
  ex : ∀ {n : Nat} {x : tb.T n} {η : List Value} {m : Mem} {vs : List Value}, (tb.rep n).im m vs x → RL tb η m (tb.ex n x) vs
  fl : ∀ {n : Nat} {x : tb.T n} {η η' : List Value} {m : Mem} {vs : List Value}, RL tb η m (tb.ex n x) vs → RL tb η' m (tb.ex n x) vs
  tou8 : ∀ {n : Nat} {l : List (tb.T n)} {x : List UInt8}, tb.tou8 n l = some x → ∀ M : (α : Type) → Rep α → List α → Prop, M (tb.T n) (tb.rep n) l → M UInt8 rU8 x
  ofu8 : ∀ {x : List UInt8} (M : (α : Type) → Rep α → List α → Prop), M UInt8 rU8 x → M (tb.T tb.u8c) (tb.rep tb.u8c) (tb.ofu8 x)
  kd : KindOk tb
def Glob (tb : Tab) (m : Mem) : Prop := ∀ {g n : Nat} {l : List (tb.T n)}, tb.gl g = some ⟨n, l⟩ → ∃ t fr xs, m g = some (.cells (xs : List Value).toArray t fr) ∧ Rows (tb.rep n) m xs l
theorem Glob.mono {tb : Tab} {m m' : Mem} (h : Glob tb m) (hs : Sub m m') : Glob tb m' := fun e => let ⟨t, fr, xs, h1, h2⟩ := h e; ⟨t, fr, xs, hs _ _ h1, h2.mono hs⟩
section
variable {tb : Tab} (ok : TabOk tb)
include ok
theorem imL_ok {n : Nat} {η : List Value} {m : Mem} : ∀ {k : Nat} {cs : List (AV tb.T)} {x : List (tb.T n)} {vs : List Value}, imL tb n (tb.rep n).sz k cs = some x → RL tb η m cs vs → Rows (tb.rep n) m vs x ∧ x.length = k
  | 0, cs, x, vs, h, hr => by
    simp only [imL] at h
    split at h
    · cases h; rw [show vs = [] from hr]; exact ⟨rfl, rfl⟩
    · cases h
  | k + 1, cs, x, vs, h, hr => by
    simp only [imL] at h
    cases h1 : tb.im n (cs.take (tb.rep n).sz) with
    | none => rw [h1] at h; cases h
    | some y =>
      rw [h1] at h
      simp only at h
      cases h2 : imL tb n (tb.rep n).sz k (cs.drop (tb.rep n).sz) with
      | none => rw [h2] at h; cases h
      | some r =>
        rw [h2] at h
        cases h
        obtain ⟨h3, h4⟩ := imL_ok h2 (hr.drop _)
        refine ⟨⟨vs.take (tb.rep n).sz, vs.drop (tb.rep n).sz, (List.take_append_drop _ _).symm, ok.im h1 (hr.take _), h3⟩, by rw [List.length_cons, h4]⟩
end
def PkPost (tb : Tab) (η : List Value) (m : Mem) (w : World) (vs : List Value) (σ' : Sg tb.T) (F : Nat → Prop) (η0 : List Value) (u : Up tb.T) : Prop :=
  ∃ η1, u.2.2 = (η0 ++ η1).length ∧ RL tb (η0 ++ η1) m u.1 vs ∧ ∃ F1 F2, Sep m w (its tb (η0 ++ η1) u.2.1) F1 ∧ Sep m w (its tb η σ') F2 ∧ (∀ k, F1 k → F2 k → False) ∧ ∀ k, F1 k ∨ F2 k → F k
theorem PkPost.pure {tb : Tab} {η : List Value} {m : Mem} {w : World} {σ : Sg tb.T} {F : Nat → Prop} {η0 : List Value} {as : List (AV tb.T)} {vs : List Value} (h : RL tb η0 m as vs) (hs : Sep m w (its tb η σ) F) : PkPost tb η m w vs σ F η0 (as, [], η0.length) :=
  ⟨[], by simp, by simpa using h, fun _ => False, F, fun _ e => e, hs, fun _ e => e.elim, fun k e => e.elim False.elim id⟩
theorem PkPost.item {tb : Tab} {η : List Value} {m : Mem} {w : World} {σ' : Sg tb.T} {F F1 F2 : Nat → Prop} {η0 : List Value} {a : AV tb.T} {v u : Value} {x : DI tb.T} {st : Nat} (h : R tb (η0 ++ [u]) m a v) (hx : (x.item tb (η0 ++ [u]) η0.length).P m w F1)
    (hs : Sep m w (its tb η σ') F2) (hd : ∀ k, F1 k → F2 k → False) (hF : ∀ k, F1 k ∨ F2 k → F k) : PkPost tb η m w [v] σ' F η0 ([a], [(η0.length, st, x)], η0.length + 1) :=
  ⟨[u], by simp, RL.mk1 h, F1, F2, Sep.one hx, hs, hd, hF⟩
theorem app_at (η0 : List Value) (u : Value) (r : List Value) : (η0 ++ u :: r)[η0.length]? = some u := by
  rw [List.getElem?_append_right (Nat.le_refl _), Nat.sub_self]; rfl
theorem castL_cases {tb : Tab} {n n' : Nat} {l : List (tb.T n')} {x : List (tb.T n)} (h : castL n n' l = some x) {M : (k : Nat) → List (tb.T k) → Prop} (hm : M n' l) : M n x := by
  obtain ⟨e, rfl⟩ := castL_some h
  subst e
  exact hm
theorem sep_assoc {m : Mem} {w : World} {a b : List Item} {F Fa Fr Fb Fc : Nat → Prop} (ha : Sep m w a Fa) (hb : Sep m w b Fb) (d1 : ∀ k, Fa k → Fr k → False) (e1 : ∀ k, Fa k ∨ Fr k → F k) (d2 : ∀ k, Fb k → Fc k → False) (e2 : ∀ k, Fb k ∨ Fc k → Fr k) :
    Sep m w (a ++ b) (fun k => Fa k ∨ Fb k) ∧ (∀ k, (Fa k ∨ Fb k) → Fc k → False) ∧ ∀ k, (Fa k ∨ Fb k) ∨ Fc k → F k :=
  ⟨Sep.app.2 ⟨Fa, Fb, ha, hb, fun k p q => d1 k p (e2 k (.inl q)), fun k => Iff.rfl⟩, fun k p q => p.elim (fun p => d1 k p (e2 k (.inr q))) (fun p => d2 k p q),
    fun k e => e1 k (e.elim (fun e => e.elim .inl (fun e => .inr (e2 k (.inl e)))) (fun e => .inr (e2 k (.inr e))))⟩
def PkOk (tb : Tab) (st : Nat) (sh : Sh) : Prop := ∀ {as : List (AV tb.T)} {σ σ' : Sg tb.T} {x : sh.ty tb.T}, pk tb sh as σ = some (x, σ') → ∀ {η : List Value} {m : Mem} {vs : List Value} {w : World} {F : Nat → Prop},
    RL tb η m as vs → Sep m w (its tb η σ) F → ∀ η0 : List Value, PkPost tb η m w vs σ' F η0 (up tb st sh x η0.length)
theorem pk_i64 {tb : Tab} (ok : TabOk tb) (st : Nat)  : PkOk tb st .i64 := by
  intro as σ σ' x h η m vs w F hr hs η0
  unfold pk at h; split at h <;> cases h; obtain ⟨v, rfl, hv⟩ := hr.one; exact PkPost.pure (RL.mk1 hv) hs
theorem pk_u8 {tb : Tab} (ok : TabOk tb) (st : Nat)  : PkOk tb st .u8 := by
  intro as σ σ' x h η m vs w F hr hs η0
  unfold pk at h; split at h <;> cases h; obtain ⟨v, rfl, hv⟩ := hr.one; exact PkPost.pure (RL.mk1 hv) hs
theorem pk_u32 {tb : Tab} (ok : TabOk tb) (st : Nat)  : PkOk tb st .u32 := by
  intro as σ σ' x h η m vs w F hr hs η0
  unfold pk at h; split at h <;> cases h; obtain ⟨v, rfl, hv⟩ := hr.one; exact PkPost.pure (RL.mk1 hv) hs
theorem pk_u16 {tb : Tab} (ok : TabOk tb) (st : Nat)  : PkOk tb st .u16 := by
  intro as σ σ' x h η m vs w F hr hs η0
  unfold pk at h; split at h <;> cases h; obtain ⟨v, rfl, hv⟩ := hr.one; exact PkPost.pure (RL.mk1 hv) hs
theorem pk_u64 {tb : Tab} (ok : TabOk tb) (st : Nat)  : PkOk tb st .u64 := by
  intro as σ σ' x h η m vs w F hr hs η0
  unfold pk at h; split at h <;> cases h; obtain ⟨v, rfl, hv⟩ := hr.one; exact PkPost.pure (RL.mk1 hv) hs
theorem pk_bool {tb : Tab} (ok : TabOk tb) (st : Nat)  : PkOk tb st .bool := by
  intro as σ σ' x h η m vs w F hr hs η0
  unfold pk at h; split at h <;> cases h; obtain ⟨v, rfl, hv⟩ := hr.one; exact PkPost.pure (RL.mk1 hv) hs
theorem pk_str {tb : Tab} (ok : TabOk tb) (st : Nat)  : PkOk tb st .str := by
  intro as σ σ' x h η m vs w F hr hs η0
  unfold pk at h; split at h <;> cases h; obtain ⟨v, rfl, hv⟩ := hr.one; exact PkPost.pure (RL.mk1 hv) hs
theorem pk_lit {tb : Tab} (ok : TabOk tb) (st : Nat) (l : List UInt8) : PkOk tb st (.lit l) := by
  intro as σ σ' x h η m vs w F hr hs η0
  unfold pk at h; split at h
  · rename_i y
    cases hb : (y == l) with
    | false => rw [hb] at h; cases h
    | true =>
      rw [hb] at h
      cases h
      obtain ⟨v, rfl, hv⟩ := hr.one
      have := beq_iff_eq.1 hb
      subst this
      exact PkPost.pure (RL.mk1 hv) hs
  · cases h
theorem pk_pt {tb : Tab} (ok : TabOk tb) (st : Nat) (n : Nat) : PkOk tb st (.pt n) := by
  intro as σ σ' x h η m vs w F hr hs η0
  obtain ⟨l, rfl, hy, h2⟩ := pkPt_some tb (show pkPt tb n as σ = some (x, σ') from h)
  have h2 : σ' = σ := h2
  subst h2
  obtain ⟨v, rfl, A, cs, e1, e2, e3⟩ := hr.one
  exact PkPost.pure (RL.mk1 (a := .cells 0 (tb.ex n x)) ⟨A, cs, e1, e2, ok.ex (ok.im hy e3)⟩) hs
theorem pk_gen {tb : Tab} (ok : TabOk tb) (st : Nat) (n : Nat) : PkOk tb st (.gen n) := by
  intro as σ σ' x h η m vs w F hr hs η0
  rcases pkGen_some tb (show pkGen tb n as σ = some (x, σ') from h) with ⟨id, st', rfl, hl, h2⟩ | ⟨d, rfl, hd, h1, h2⟩
  rotate_left
  · have h1 : x = d.of [] := h1
    have h2 : σ' = σ := h2
    subst h1 h2
    obtain ⟨v, rfl, hv⟩ := hr.one
    have hv : v = .slice none 0 0 := hv
    subst hv
    refine PkPost.item (F1 := fun _ => False) (u := .slice none 0 0) ⟨app_at _ _ _, rfl⟩ ⟨_, _, ⟨app_at _ _ _, app_at _ _ _⟩, rfl, ?_⟩ hs (fun _ e => e.elim) (fun k e => e.elim False.elim id)
    rw [(ok.kd.dgi hd).1, (ok.kd.dgi hd).2.2.1]
    exact deepI_nil _ _ _
  have h2 : σ' = del σ id := h2
  subst h2
  obtain ⟨v, rfl, hv⟩ := hr.one
  obtain ⟨F1, F2, ⟨v', u, ⟨h1, h1'⟩, h2, h3⟩, h4, h5, h6⟩ := Sep_lk hl hs
  rw [h1] at h1'
  cases h1'
  rw [hv.1] at h1
  cases h1
  exact PkPost.item (u := v) ⟨app_at _ _ _, h2⟩ ⟨v, v, ⟨app_at _ _ _, app_at _ _ _⟩, h2, h3⟩ h4 h5 h6
theorem pk_nilp {tb : Tab} (ok : TabOk tb) (st : Nat)  : PkOk tb st .nilp := by
  intro as σ σ' x h η m vs w F hr hs η0
  unfold pk at h; split at h <;> cases h; obtain ⟨v, rfl, hv⟩ := hr.one; exact PkPost.pure (RL.mk1 hv) hs
theorem pk_nl {tb : Tab} (ok : TabOk tb) (st : Nat)  : PkOk tb st .nl := by
  intro as σ σ' x h η m vs w F hr hs η0
  unfold pk at h; split at h <;> cases h; obtain ⟨v, rfl, hv⟩ := hr.one; exact PkPost.pure (RL.mk1 hv) hs
theorem pk_sl {tb : Tab} (ok : TabOk tb) (st : Nat) (n : Nat) : PkOk tb st (.sl n) := by
  intro as σ σ' x h η m vs w F hr hs η0
  unfold pk at h
  split at h
  · rename_i n' l
    cases hc : castL n n' l with
    | none => rw [hc] at h; cases h
    | some y =>
      rw [hc] at h
      cases h
      obtain ⟨v, rfl, hv⟩ := hr.one
      exact PkPost.pure (RL.mk1 (castL_cases hc (M := fun k l => R tb η0 m (.sl k l) v) hv)) hs
  · cases h
    obtain ⟨v, rfl, hv⟩ := hr.one
    exact PkPost.pure (RL.mk1 ⟨none, 0, hv, SlI.nil _ _⟩) hs
  · cases h
theorem pk_row {tb : Tab} (ok : TabOk tb) (st : Nat) (n : Nat) (t : Nat) : PkOk tb st (.row n t) := by
  intro as σ σ' x h η m vs w F hr hs η0
  unfold pk at h
  split at h
  · rename_i id
    obtain ⟨v, rfl, hv⟩ := hr.one
    cases hl : lk σ id with
    | none => rw [hl] at h; cases h
    | some p =>
      obtain ⟨st', y⟩ := p
      rw [hl] at h
      cases y with
      | blk => cases h
      | kep => cases h
      | gen => cases h
      | row n' t' l =>
        simp only at h
        cases hb : Nat.beq t' t with
        | false => rw [hb] at h; cases h
        | true =>
          have := beq_t hb
          subst this
          rw [hb] at h
          simp only [cond_true] at h
          cases hc : castL n n' l with
          | none => rw [hc] at h; cases h
          | some z =>
            rw [hc] at h
            obtain ⟨hx, h'⟩ := Prod.mk.inj (Option.some.inj h)
            subst h'
            have hx : z = x := hx
            subst hx
            obtain ⟨F1, F2, ⟨A, c, h1, h2⟩, h3, h4, h5⟩ := Sep_lk hl hs
            have e : v = .slice A l.length c := by rw [hv.1] at h1; exact Option.some.inj h1
            subst e
            have h6 : ∃ k : (Option Addr), ∃ c' : Nat, Value.slice A l.length c = .slice A z.length c ∧ (rowI (tb.rep n) t' A c z).P m w F1 := castL_cases hc (M := fun k z => ∃ _ : (Option Addr), ∃ _ : Nat, Value.slice A l.length c = .slice A z.length c ∧ (rowI (tb.rep k) t' A c z).P m w F1) ⟨none, 0, rfl, h2⟩
            obtain ⟨_, _, h7, h8⟩ := h6
            refine PkPost.item (u := .slice A z.length c) ⟨by rw [h7]; exact app_at _ _ _, rfl⟩ ⟨A, c, app_at _ _ _, h8⟩ h3 h4 h5
      | lit t' k c =>
        simp only at h
        cases hb : (Nat.beq t' t && Nat.ble k 137438953472) with
        | false => rw [hb] at h; cases h
        | true =>
          rw [Bool.and_eq_true] at hb
          have := beq_t hb.1
          subst this
          have hk := Nat.le_of_ble_eq_true hb.2
          rw [hb.1, hb.2] at h
          simp only [Bool.and_true, cond_true] at h
          cases hc : imL tb n (tb.rep n).sz k c with
          | none => rw [hc] at h; cases h
          | some z =>
            rw [hc] at h
            obtain ⟨hx, h'⟩ := Prod.mk.inj (Option.some.inj h)
            subst h'
            have hx : z = x := hx
            subst hx
            obtain ⟨F1, F2, ⟨g, cs, h1, h2, h2'⟩, h3, h4, h5⟩ := Sep_lk hl hs
            have e : v = .slice (some ⟨g, 0, none⟩) k k := by rw [hv.1] at h1; exact Option.some.inj h1
            subst e
            obtain ⟨h6, h7⟩ := imL_ok ok hc h2
            subst h7
            have hml : z.length ≤ maxLen := Nat.le_trans hk (by decide)
            have hown := own_of_blk (base := 0) (n := z.length) (sz := (tb.rep n).sz) h2'.1 (Nat.zero_le _) hml (by simpa using h6.len)
            refine PkPost.item (F1 := F1) (u := .slice (some ⟨g, 0, none⟩) z.length z.length) ⟨app_at _ _ _, rfl⟩ ⟨_, _, app_at _ _ _, ⟨cs, h6, by simpa using hown⟩, fun j => ?_⟩ h3 h4 h5
            rw [h2'.2 j]
            exact ⟨fun e => by subst e; rfl, fun e => by cases e; rfl⟩
  · cases h
    obtain ⟨v, rfl, hv⟩ := hr.one
    have hv : v = .slice none 0 0 := hv
    subst hv
    exact PkPost.item (F1 := fun _ => False) (u := .slice none 0 0) ⟨app_at _ _ _, rfl⟩ ⟨none, 0, app_at _ _ _, ⟨[], rfl, World.ownsRow_nil _ _ _ _⟩, fun k => ⟨False.elim, fun e => by cases e⟩⟩ hs (fun _ e => e.elim) (fun k e => e.elim False.elim id)
  · cases h
theorem pk_own {tb : Tab} (ok : TabOk tb) (st : Nat) (t : Nat) (s : Sh) (ih : PkOk tb st s) : PkOk tb st (.own t s) := by
  intro as σ σ' x h η m vs w F hr hs η0
  obtain ⟨id, st', c, rfl, hl, h⟩ := pkOwn_some tb (show pkOwn tb t as σ (pk tb s) = some (x, σ') from h)
  obtain ⟨v, rfl, hv⟩ := hr.one
  obtain ⟨F1, F2, ⟨g, cs, h1, h2, h2'⟩, h3, h4, h5⟩ := Sep_lk hl hs
  obtain ⟨g', k1, rfl⟩ := hv
  rw [h1] at k1
  cases k1
  have hp := ih h h2 h3 (η0 ++ [.pointer (some ⟨g, 0, none⟩)])
  rw [List.length_append, List.length_singleton] at hp
  unfold up
  generalize up tb st s x (η0.length + 1) = u at hp ⊢
  obtain ⟨as', σ1, c'⟩ := u
  obtain ⟨η1, h6, h7, G1, G2, h8, h9, h10, h11⟩ := hp
  simp only at h6 h7 h8
  have e : η0 ++ [Value.pointer (some ⟨g, 0, none⟩)] ++ η1 = η0 ++ (.pointer (some ⟨g, 0, none⟩) :: η1) := by simp
  rw [e] at h6 h7 h8
  refine ⟨.pointer (some ⟨g, 0, none⟩) :: η1, h6, RL.mk1 ⟨g, app_at _ _ _, rfl⟩, fun k => F1 k ∨ G1 k, G2, ?_, h9, ?_, ?_⟩
  · exact ⟨F1, G1, ⟨g, cs, app_at _ _ _, h7, h2'⟩, h8, fun k a b => h4 k a (h11 k (.inl b)), fun k => Iff.rfl⟩
  · intro k a b
    exact a.elim (fun a => h4 k a (h11 k (.inr b))) (fun a => h10 k a b)
  · exact fun k e => h5 k (e.elim (fun e => e.elim .inl (fun e => .inr (h11 k (.inl e)))) (fun e => .inr (h11 k (.inr e))))
theorem pk_agg {tb : Tab} (ok : TabOk tb) (st : Nat) (s : Sh) (ih : PkOk tb st s) : PkOk tb st (.agg s) := by
  intro as σ σ' x h η m vs w F hr hs η0
  obtain ⟨c, rfl, h⟩ := pkAgg_some tb (show pkAgg tb as (fun c => pk tb s c σ) = some (x, σ') from h)
  obtain ⟨v, rfl, cs, rfl, hv⟩ := hr.one
  have hp := ih h hv hs η0
  unfold up
  generalize up tb st s x η0.length = u at hp ⊢
  obtain ⟨as', σ1, c'⟩ := u
  obtain ⟨η1, h6, h7, h8⟩ := hp
  exact ⟨η1, h6, RL.mk1 ⟨cs, rfl, h7⟩, h8⟩
theorem pk_fn {tb : Tab} (ok : TabOk tb) (st : Nat) (f : Nat) (k : Nat) (s : Sh) (ih : PkOk tb st s) : PkOk tb st (.fn f k s) := by
  intro as σ σ' x h η m vs w F hr hs η0
  obtain ⟨l, c, rfl, hk, h⟩ := pkFn_some tb (show pkFn tb f k as (fun c => pk tb s c σ) = some (x, σ') from h)
  obtain ⟨v, rfl, xs, ys, rfl, hx, hy⟩ := hr.one
  have hp := ih h (hx.app hy) hs η0
  unfold up
  generalize up tb st s x η0.length = u at hp ⊢
  obtain ⟨as', σ1, c'⟩ := u
  obtain ⟨η1, h6, h7, h8⟩ := hp
  refine ⟨η1, h6, RL.mk1 ⟨xs, ys, rfl, ?_, ?_⟩, h8⟩
  · have := h7.take k
    rwa [List.take_left' (by rw [hx.len]; exact hk)] at this
  · have := h7.drop k
    rwa [List.drop_left' (by rw [hx.len]; exact hk)] at this
theorem pk_alt {tb : Tab} (ok : TabOk tb) (st : Nat) (a b : Sh) (iha : PkOk tb st a) (ihb : PkOk tb st b) : PkOk tb st (.alt a b) := by
  intro as σ σ' x h η m vs w F hr hs η0
  rcases pkAlt_some (show pkAlt (pk tb a as σ) (fun _ => pk tb b as σ) = some (x, σ') from h) with ⟨y, h1, h2⟩ | ⟨y, h1, h2⟩
  · have h2 : x = .inl y := h2
    subst h2
    exact iha h1 hr hs η0
  · have h2 : x = .inr y := h2
    subst h2
    exact ihb h1 hr hs η0
theorem pk_nil {tb : Tab} (ok : TabOk tb) (st : Nat)  : PkOk tb st .nil := by
  intro as σ σ' x h η m vs w F hr hs η0
  unfold pk at h
  split at h
  · cases h; exact PkPost.pure hr hs
  · cases h
theorem pk_cons {tb : Tab} (ok : TabOk tb) (st : Nat) (hd : Sh) (r : Sh) (ih1 : PkOk tb st hd) (ih2 : PkOk tb st r) : PkOk tb st (.cons hd r) := by
  intro as σ σ' x h η m vs w F hr hs η0
  obtain ⟨a, as, rfl, hh⟩ := pkCons_some tb (show pkCons tb r.isNil as σ (pk tb hd) (pk tb r) = some (x, σ') from h)
  clear h
  have h := hh
  clear hh
  · obtain ⟨v, vs', rfl, hv, hvs⟩ := hr
    unfold pkC at h
    cases h1 : pk tb hd [a] σ with
    | none => rw [h1] at h; cases h
    | some p =>
      obtain ⟨y, σ1⟩ := p
      rw [h1] at h
      simp only at h
      have hp := ih1 h1 (RL.mk1 hv) hs η0
      unfold up
      simp only [Sh.ty] at x h
      generalize hi : r.isNil = i at x h ⊢
      cases i with
      | true =>
        simp only at h
        cases hb : as.isEmpty with
        | false => rw [hb] at h; cases h
        | true =>
          rw [hb] at h
          simp only [cond_true, Option.some.injEq, Prod.mk.injEq] at h
          obtain ⟨rfl, rfl⟩ := h
          have := List.isEmpty_iff.1 hb
          subst this
          have : vs' = [] := hvs
          subst this
          exact hp
      | false =>
        simp only at h
        cases h2 : pk tb r as σ1 with
        | none => rw [h2] at h; cases h
        | some p2 =>
          obtain ⟨z, σ2⟩ := p2
          rw [h2] at h
          simp only [Option.some.injEq, Prod.mk.injEq] at h
          obtain ⟨rfl, rfl⟩ := h
          simp only [upC]
          generalize up tb st hd y η0.length = u at hp ⊢
          obtain ⟨bs, τ, c1⟩ := u
          obtain ⟨η1, h6, h7, F1, F2, h8, h9, h10, h11⟩ := hp
          simp only at h6 h7 h8
          subst h6
          have hp2 := ih2 h2 hvs h9 (η0 ++ η1)
          simp only
          generalize up tb st r z (η0 ++ η1).length = u at hp2 ⊢
          obtain ⟨bs2, τ2, c2⟩ := u
          obtain ⟨η2, k6, k7, G1, G2, k8, k9, k10, k11⟩ := hp2
          simp only at k6 k7 k8
          have e : η0 ++ η1 ++ η2 = η0 ++ (η1 ++ η2) := List.append_assoc _ _ _
          have hle := Le.app (η0 ++ η1) η2
          obtain ⟨q1, q2, q3⟩ := sep_assoc (its_le hle τ h8) k8 h10 h11 k10 k11
          rw [e] at k6 k7 q1 hle
          refine ⟨η1 ++ η2, k6, ?_, fun k => F1 k ∨ G1 k, G2, ?_, k9, q2, q3⟩
          · have := (RL.mono hle (Sub.refl _) bs h7).app k7
            simpa using this
          · rw [its_app]
            exact q1
theorem pk_ok {tb : Tab} (ok : TabOk tb) (st : Nat) : ∀ sh : Sh, PkOk tb st sh
  | .i64 => pk_i64 ok st
  | .u8 => pk_u8 ok st
  | .u32 => pk_u32 ok st
  | .u16 => pk_u16 ok st
  | .u64 => pk_u64 ok st
  | .bool => pk_bool ok st
  | .str => pk_str ok st
  | .nilp => pk_nilp ok st
  | .nl => pk_nl ok st
  | .sl n => pk_sl ok st n
  | .row n t => pk_row ok st n t
  | .own t s => pk_own ok st t s (pk_ok ok st s)
  | .agg s => pk_agg ok st s (pk_ok ok st s)
  | .fn f k s => pk_fn ok st f k s (pk_ok ok st s)
  | .alt a b => pk_alt ok st a b (pk_ok ok st a) (pk_ok ok st b)
  | .lit l => pk_lit ok st l
  | .pt n => pk_pt ok st n
  | .gen n => pk_gen ok st n
  | .nil => pk_nil ok st
  | .cons hd r => pk_cons ok st hd r (pk_ok ok st hd) (pk_ok ok st r)
def altE {A B C : Type} (x : A ⊕ B) (f : A → C) (g : B → C) : C := match x with
  | .inl y => f y
  | .inr y => g y
def splC {A B C : Type} (i : Bool) (f : A → (A → C) → C) (g : B → (B → C) → C) (x : cond i A (A × B)) (k : cond i A (A × B) → C) : C := match i, x, k with
  | true, x, k => f x k
  | false, x, k => f x.1 fun a => g x.2 fun b => k (a, b)
def split {T : Nat → Type} {C : Type} : (sh : Sh) → sh.ty T → (sh.ty T → C) → C
  | .own _ s, x, k => split s x k
  | .agg s, x, k => split s x k
  | .fn _ _ s, x, k => split s x k
  | .alt a b, x, k => altE x (fun y => split a y fun y => k (.inl y)) (fun y => split b y fun y => k (.inr y))
  | .cons h r, x, k => splC r.isNil (split h) (split r) x k
  | _, x, k => k x
theorem split_eq {T : Nat → Type} {C : Type} : ∀ (sh : Sh) (x : sh.ty T) (k : sh.ty T → C), split sh x k = k x
  | .own _ s, x, k => split_eq s x k
  | .agg s, x, k => split_eq s x k
  | .fn _ _ s, x, k => split_eq s x k
  | .alt a b, x, k => match x with
    | .inl y => split_eq a y fun y => k (.inl y)
    | .inr y => split_eq b y fun y => k (.inr y)
  | .cons h r, x, k => by
    have h1 := fun x k => split_eq (T := T) (C := C) h x k
    have h2 := fun x k => split_eq (T := T) (C := C) r x k
    unfold split
    simp only [Sh.ty] at x k
    generalize hi : r.isNil = i at x k ⊢
    cases i with
    | true => exact h1 x k
    | false => show split h x.1 (fun a => split r x.2 fun b => k (a, b)) = _; rw [h1, h2]; rfl
  | .i64, _, _ => rfl
  | .u8, _, _ => rfl
  | .u32, _, _ => rfl
  | .u16, _, _ => rfl
  | .u64, _, _ => rfl
  | .bool, _, _ => rfl
  | .str, _, _ => rfl
  | .nilp, _, _ => rfl
  | .nl, _, _ => rfl
  | .lit _, _, _ => rfl
  | .pt _, _, _ => rfl
  | .gen _, _, _ => rfl
  | .sl _, _, _ => rfl
  | .row _ _, _, _ => rfl
  | .nil, _, _ => rfl
end Go.Proofs.YtkmhidggbnbaaaaGreatDoor.K.E
set_option linter.unusedVariables false
set_option linter.unusedSimpArgs false
set_option linter.unusedSectionVars false
namespace Go.Proofs.YtkmhidggbnbaaaaGreatDoor.K.E
open Go Go.RowKit
section
variable {T : Nat → Type}
def cst1 : Value → AV T
  | .int .i64 n => .i64 n
  | .int .u8 n => cond (decide (((UInt8.ofNat n.toNat).toNat : Int) = n)) (.u8 (UInt8.ofNat n.toNat)) (.lit (.int .u8 n))
  | .int .u32 n => cond (decide (((UInt32.ofNat n.toNat).toNat : Int) = n)) (.u32 (UInt32.ofNat n.toNat)) (.lit (.int .u32 n))
  | .int .u64 n => cond (decide (((UInt64.ofNat n.toNat).toNat : Int) = n)) (.u64 (UInt64.ofNat n.toNat)) (.lit (.int .u64 n))
  | .bool b => .bool b
  | .string s => cond (Nat.ble s.data.toList.length 9223372036854775807) (.str s.data.toList) (.lit (.string s))
  | .pointer none => .nilp
  | .slice none 0 0 => .nils
  | v => .lit v
def cst : Value → AV T
  | .agg cs => .agg (cs.toList.map cst1)
  | v => cst1 v
def conc : AV T → Option Value
  | .i64 x => some (.int .i64 x)
  | .u8 x => some (.int .u8 (x.toNat : Int))
  | .u32 x => some (.int .u32 (x.toNat : Int))
  | .u16 x => some (.int .u16 (x.toNat : Int))
  | .u64 x => some (.int .u64 (x.toNat : Int))
  | .bool x => some (.bool x)
  | .str l => some (.string ⟨l.toArray⟩)
  | .nils => some (.slice none 0 0)
  | .nilp => some (.pointer none)
  | .glob g => some (.pointer (some ⟨g, 0, none⟩))
  | .lit v => some v
  | _ => none
def ofV : Value → AV T
  | .int .i64 n => .i64 n
  | .bool b => .bool b
  | .pointer none => .nilp
  | v => .lit v
end
section
variable {tb : Tab} {η : List Value} {m : Mem}
theorem cond_lit {a : AV tb.T} (v : Value) (p : Prop) [Decidable p] (h : p → R tb η m a v) : R tb η m (cond (decide p) a (.lit v)) v := by
  by_cases hp : p
  · rw [decide_eq_true hp]; exact h hp
  · rw [decide_eq_false hp]; exact rfl
theorem cst1_ok (v : Value) : R tb η m (cst1 v) v := by
  unfold cst1
  split
  · rfl
  · refine cond_lit _ _ ?_; intro h; show _ = _; rw [h]
  · refine cond_lit _ _ ?_; intro h; show _ = _; rw [h]
  · refine cond_lit _ _ ?_; intro h; show _ = _; rw [h]
  · rfl
  · rename_i s
    cases h : Nat.ble s.data.toList.length 9223372036854775807
    · rfl
    · exact ⟨by simp, Nat.le_of_ble_eq_true h⟩
  · rfl
  · rfl
  · rfl
theorem cst1L_ok : ∀ l : List Value, RL tb η m (l.map cst1) l
  | [] => rfl
  | v :: l => ⟨v, l, rfl, cst1_ok v, cst1L_ok l⟩
theorem cst_ok (v : Value) : R tb η m (cst v) v := by
  unfold cst
  split
  · rename_i cs; exact ⟨cs.toList, by simp, cst1L_ok _⟩
  · exact cst1_ok v
theorem conc_ok {a : AV tb.T} {u v : Value} (h : conc a = some u) (hr : R tb η m a v) : v = u := by
  cases a <;> simp only [conc, Option.some.injEq, reduceCtorEq] at h <;> simp only [R] at hr <;> subst h
  case str => exact hr.1
  all_goals exact hr
theorem ofV_ok (v : Value) : R tb η m (ofV v) v := by
  unfold ofV
  split <;> rfl
end
structure S (T : Nat → Type) where
  κ : List (Nat × Nat × AV T)
  σ : Sg T
  c : Nat
  d : Nat
section
variable {T : Nat → Type}
def S.put (s : S T) (d : Option Nat) (v : AV T) : S T := match d with
  | some t => { s with κ := (t, s.d, v) :: s.κ, d := s.d + 1 }
  | none => s
def evA (κ : List (Nat × Nat × AV T)) : Operand → Option (AV T)
  | .tmp t => match lk κ t with
    | some (_, v) => some v
    | none => none
  | .const v => some (cst v)
  | .global g => some (.glob g)
  | .func f => some (.fn f [] [])
def evL (ev : Operand → Option (AV T)) : List Operand → Option (List (AV T))
  | [] => some []
  | x :: r => match ev x with
    | some a => match evL ev r with
      | some l => some (a :: l)
      | none => none
    | none => none
def cv (ev : Operand → Option (AV T)) (x : Operand) : Value := match ev x with
  | some a => match conc a with
    | some v => v
    | none => undef
  | none => undef
def allC (ev : Operand → Option (AV T)) (l : List Operand) : Bool := l.all fun x => match ev x with
  | some a => (conc a).isSome
  | none => false
def fb (P : Program) (ev : Operand → Option (AV T)) (o : Oper) : Option (AV T) := cond (noSel o.op && allC ev o.op.operands.toList) (match takeN.pureV P (execOp (cv ev) o) with
  | some v => some (ofV v)
  | none => none) none
end
def Ev (tb : Tab) (η : List Value) (m : Mem) (ev : Operand → Option (AV tb.T)) (ρ : Operand → Value) : Prop := ∀ x a, ev x = some a → R tb η m a (ρ x)
section
variable {P : Program} {tb : Tab} {η : List Value} {m : Mem} {ev : Operand → Option (AV tb.T)} {ρ : Operand → Value} {o : Oper} {v : AV tb.T} {w : World}
def Run0 (P : Program) (tb : Tab) (η : List Value) (m : Mem) (s : Sem Next) (v : AV tb.T) : Prop := ∃ u, (∀ w, Has m w → s.run P w = .ok (.value u) w) ∧ R tb η m v u
theorem fb_ok (h : fb P ev o = some v) (he : Ev tb η m ev ρ) : Run0 P tb η m (execOp ρ o) v := by
  unfold fb at h
  cases hc : (noSel o.op && allC ev o.op.operands.toList) with
  | false => rw [hc] at h; cases h
  | true =>
    rw [hc] at h
    simp only [cond_true] at h
    rw [Bool.and_eq_true] at hc
    cases hp : takeN.pureV P (execOp (cv ev) o) with
    | none => rw [hp] at h; cases h
    | some u =>
      rw [hp] at h
      cases h
      have e : execOp ρ o = execOp (cv ev) o := by
        refine execOp_congr o ?_ ?_
        · intro cs b e; have := hc.1; rw [e] at this; cases this
        · intro x hx
          have h1 := List.all_eq_true.1 hc.2 x (by simpa using hx)
          simp only [cv]
          cases hx1 : ev x with
          | none => rw [hx1] at h1; cases h1
          | some a =>
            rw [hx1] at h1
            simp only at h1
            cases hx2 : conc a with
            | none => rw [hx2] at h1; cases h1
            | some u => simp only [hx2]; exact conc_ok hx2 (he x a hx1)
      rw [e]
      exact ⟨u, fun w _ => pureV_run hp w, ofV_ok u⟩
theorem evL_ok (he : Ev tb η m ev ρ) : ∀ {l : List Operand} {as : List (AV tb.T)}, evL ev l = some as → RL tb η m as (l.map ρ)
  | [], as, h => by simp only [evL, Option.some.injEq] at h; subst h; rfl
  | x :: r, as, h => by
    simp only [evL] at h
    cases h1 : ev x with
    | none => rw [h1] at h; cases h
    | some a =>
      rw [h1] at h
      simp only at h
      cases h2 : evL ev r with
      | none => rw [h2] at h; cases h
      | some l =>
        rw [h2] at h
        cases h
        exact ⟨ρ x, r.map ρ, rfl, he x a h1, evL_ok he h2⟩
end
section
variable {T : Nat → Type}
def binU (op : BinOp) (a b : AV T) : Option (AV T) := match a, b with
  | .u64 x, .u64 y => match op with
    | .add => some (.u64 (x + y)) | .sub => some (.u64 (x - y)) | .mul => some (.u64 (x * y))
    | .and => some (.u64 (x &&& y)) | .or => some (.u64 (x ||| y)) | .xor => some (.u64 (x ^^^ y)) | _ => none
  | .u32 x, .u32 y => match op with
    | .add => some (.u32 (x + y)) | .sub => some (.u32 (x - y)) | .mul => some (.u32 (x * y))
    | .and => some (.u32 (x &&& y)) | .or => some (.u32 (x ||| y)) | .xor => some (.u32 (x ^^^ y)) | _ => none
  | .u8 x, .u8 y => match op with
    | .add => some (.u8 (x + y)) | .sub => some (.u8 (x - y)) | .mul => some (.u8 (x * y))
    | .and => some (.u8 (x &&& y)) | .or => some (.u8 (x ||| y)) | .xor => some (.u8 (x ^^^ y)) | _ => none
  | .str x, .str y => match op with
    | .eql => some (.bool (x == y)) | .neq => some (.bool (x != y))
    | .lss => some (.bool (ltB x y)) | .leq => some (.bool (leB x y)) | .gtr => some (.bool (gtB x y)) | .geq => some (.bool (geB x y))
    | _ => none
  | _, _ => none
end
theorem q32_m (x : Int) : IntKind.u32.wrap x = x % 4294967296 := by simp [IntKind.wrap, IntKind.bits, IntKind.signed]
theorem q32_add (x y : UInt32) : IntKind.u32.wrap ((x.toNat : Int) + y.toNat) = ((x + y).toNat : Int) := by rw [q32_m]; simp
theorem q32_mul (x y : UInt32) : IntKind.u32.wrap ((x.toNat : Int) * y.toNat) = ((x * y).toNat : Int) := by rw [q32_m]; simp
theorem q32_sub (x y : UInt32) : IntKind.u32.wrap ((x.toNat : Int) - y.toNat) = ((x - y).toNat : Int) := by
  rw [q32_m, UInt32.toNat_sub]; have := x.toNat_lt; have := y.toNat_lt; omega
theorem q8_mul (x y : UInt8) : IntKind.u8.wrap ((x.toNat : Int) * y.toNat) = ((x * y).toNat : Int) := by rw [wu8m]; simp
section
variable {P : Program} {tb : Tab} {η : List Value} {m : Mem} {v a b : AV tb.T} {w : World} {x y : Value}
theorem guard_int {w : World} (op : BinOp) (t : TypeId) (p q : Operand) (k k' : IntKind) (a b : Int) : (eqGuard op t p q (.int k a) (.int k' b)).run P w = .ok () w := by
  cases op <;> rfl
theorem guard_str {w : World} (op : BinOp) (t : TypeId) (p q : Operand) (a b : ByteArray) : (eqGuard op t p q (.string a) (.string b)).run P w = .ok () w := by
  cases op <;> rfl
theorem guard_ptr {w : World} (op : BinOp) (t : TypeId) (p q : Operand) (a b : Option Addr) : (eqGuard op t p q (.pointer a) (.pointer b)).run P w = .ok () w := by
  cases op <;> rfl
theorem bin_run {w : World} {op : BinOp} {t : TypeId} {p q : Operand} {x y u : Value} (hg : (eqGuard op t p q x y).run P w = .ok () w) (hb : (binOp op t x y).run P w = .ok u w) : (vS (do eqGuard op t p q x y; binOp op t x y)).run P w = .ok (.value u) w := by
  refine vS_run ?_
  rw [Sem.run_bind, hg, Result.andThen_ok, hb]
theorem binU_ok {op : BinOp} {t : TypeId} {p q : Operand} (h : binU op a b = some v) (ha : R tb η m a x) (hb : R tb η m b y) : Run0 P tb η m (vS (do eqGuard op t p q x y; binOp op t x y)) v := by
  unfold binU at h
  split at h
  · simp only [R] at ha hb
    subst ha hb
    split at h <;> first | (cases h; done) | (cases h)
    · exact ⟨_, fun w _ => bin_run (guard_int _ _ _ _ _ _ _ _) rfl, congrArg (Value.int .u64) (q64_add _ _ _ _ rfl rfl)⟩
    · exact ⟨_, fun w _ => bin_run (guard_int _ _ _ _ _ _ _ _) rfl, congrArg (Value.int .u64) (q64_sub _ _ _ _ rfl rfl)⟩
    · exact ⟨_, fun w _ => bin_run (guard_int _ _ _ _ _ _ _ _) rfl, congrArg (Value.int .u64) (q64_mul _ _ _ _ rfl rfl)⟩
    · exact ⟨_, fun w _ => bin_run (guard_int _ _ _ _ _ _ _ _) rfl, congrArg (Value.int .u64) (q64_and _ _ _ _ rfl rfl)⟩
    · exact ⟨_, fun w _ => bin_run (guard_int _ _ _ _ _ _ _ _) rfl, congrArg (Value.int .u64) (q64_or _ _ _ _ rfl rfl)⟩
    · exact ⟨_, fun w _ => bin_run (guard_int _ _ _ _ _ _ _ _) rfl, congrArg (Value.int .u64) (q64_xor _ _ _ _ rfl rfl)⟩
  · simp only [R] at ha hb
    subst ha hb
    split at h <;> first | (cases h; done) | (cases h)
    · exact ⟨_, fun w _ => bin_run (guard_int _ _ _ _ _ _ _ _) rfl, congrArg (Value.int .u32) (q32_add _ _)⟩
    · exact ⟨_, fun w _ => bin_run (guard_int _ _ _ _ _ _ _ _) rfl, congrArg (Value.int .u32) (q32_sub _ _)⟩
    · exact ⟨_, fun w _ => bin_run (guard_int _ _ _ _ _ _ _ _) rfl, congrArg (Value.int .u32) (q32_mul _ _)⟩
    · exact ⟨_, fun w _ => bin_run (guard_int _ _ _ _ _ _ _ _) rfl, congrArg (Value.int .u32) (q32_and _ _ _ _ rfl rfl)⟩
    · exact ⟨_, fun w _ => bin_run (guard_int _ _ _ _ _ _ _ _) rfl, congrArg (Value.int .u32) (q32_or _ _ _ _ rfl rfl)⟩
    · exact ⟨_, fun w _ => bin_run (guard_int _ _ _ _ _ _ _ _) rfl, congrArg (Value.int .u32) (q32_xor _ _ _ _ rfl rfl)⟩
  · simp only [R] at ha hb
    subst ha hb
    split at h <;> first | (cases h; done) | (cases h)
    · exact ⟨_, fun w _ => bin_run (guard_int _ _ _ _ _ _ _ _) rfl, congrArg (Value.int .u8) (q8_add _ _ _ _ rfl rfl)⟩
    · exact ⟨_, fun w _ => bin_run (guard_int _ _ _ _ _ _ _ _) rfl, congrArg (Value.int .u8) (q8_sub _ _ _ _ rfl rfl)⟩
    · exact ⟨_, fun w _ => bin_run (guard_int _ _ _ _ _ _ _ _) rfl, congrArg (Value.int .u8) (q8_mul _ _)⟩
    · exact ⟨_, fun w _ => bin_run (guard_int _ _ _ _ _ _ _ _) rfl, congrArg (Value.int .u8) (q8_and _ _ _ _ rfl rfl)⟩
    · exact ⟨_, fun w _ => bin_run (guard_int _ _ _ _ _ _ _ _) rfl, congrArg (Value.int .u8) (q8_or _ _ _ _ rfl rfl)⟩
    · exact ⟨_, fun w _ => bin_run (guard_int _ _ _ _ _ _ _ _) rfl, congrArg (Value.int .u8) (q8_xor _ _ _ _ rfl rfl)⟩
  · obtain ⟨rfl, ha2⟩ := ha
    obtain ⟨rfl, hb2⟩ := hb
    split at h <;> first | (cases h; done) | (cases h)
    · exact ⟨_, fun w _ => bin_run (guard_str _ _ _ _ _ _) rfl, congrArg Value.bool (seq_raw _ _)⟩
    · exact ⟨_, fun w _ => bin_run (guard_str _ _ _ _ _ _) rfl, congrArg Value.bool (sne_raw _ _)⟩
    · exact ⟨_, fun w _ => bin_run (guard_str _ _ _ _ _ _) rfl, congrArg Value.bool (ltB_raw _ _)⟩
    · exact ⟨_, fun w _ => bin_run (guard_str _ _ _ _ _ _) rfl, congrArg Value.bool (leB_raw _ _)⟩
    · exact ⟨_, fun w _ => bin_run (guard_str _ _ _ _ _ _) rfl, congrArg Value.bool (gtB_raw _ _)⟩
    · exact ⟨_, fun w _ => bin_run (guard_str _ _ _ _ _ _) rfl, congrArg Value.bool (geB_raw _ _)⟩
  · cases h
def unA {T : Nat → Type} (op : UnOp) (a : AV T) : Option (AV T) := match op, a with
  | .neg, .u64 x => some (.u64 (0 - x))
  | .neg, .u32 x => some (.u32 (0 - x))
  | .neg, .u8 x => some (.u8 (0 - x))
  | .xor, .u64 x => some (.u64 (18446744073709551615 ^^^ x))
  | .xor, .u32 x => some (.u32 (4294967295 ^^^ x))
  | .xor, .u8 x => some (.u8 (255 ^^^ x))
  | _, _ => none
theorem unA_ok {op : UnOp} (h : unA op a = some v) (ha : R tb η m a x) : Run0 P tb η m (vS (Op.unary op x)) v := by
  unfold unA at h
  split at h <;> cases h <;> simp only [R] at ha <;> subst ha
  · exact ⟨_, fun w _ => vS_run rfl, congrArg (Value.int .u64) (q64_sub 0 _ _ _ rfl rfl)⟩
  · exact ⟨_, fun w _ => vS_run rfl, congrArg (Value.int .u32) (q32_sub 0 _)⟩
  · exact ⟨_, fun w _ => vS_run rfl, congrArg (Value.int .u8) (q8_sub 0 _ _ _ rfl rfl)⟩
  · exact ⟨_, fun w _ => vS_run rfl, congrArg (Value.int .u64) (q64_xor 18446744073709551615 _ _ _ rfl rfl)⟩
  · exact ⟨_, fun w _ => vS_run rfl, congrArg (Value.int .u32) (q32_xor 4294967295 _ _ _ rfl rfl)⟩
  · exact ⟨_, fun w _ => vS_run rfl, congrArg (Value.int .u8) (q8_xor 255 _ _ _ rfl rfl)⟩
def isPtr {T : Nat → Type} : AV T → Bool
  | .ptr _ _ => true
  | .elt _ _ _ _ => true
  | .cells _ _ => true
  | .glob _ => true
  | _ => false
def isNilp {T : Nat → Type} : AV T → Bool
  | .nilp => true
  | _ => false
def ptrT (P : Program) (t : TypeId) : Bool := match P.underlying t with
  | some (.pointer _) => true
  | _ => false
def nilA {T : Nat → Type} (P : Program) (op : BinOp) (t : TypeId) (a b : AV T) : Option (AV T) := cond (ptrT P t && ((isPtr a && isNilp b) || (isNilp a && isPtr b))) (match op with
  | .eql => some (.bool false)
  | .neq => some (.bool true)
  | _ => none) none
theorem isPtr_ok {a : AV tb.T} {x : Value} (h : isPtr a = true) (ha : R tb η m a x) : ∃ ad, x = .pointer (some ad) := by
  cases a <;> simp only [isPtr, Bool.false_eq_true] at h <;> simp only [R] at ha
  · obtain ⟨g, _, rfl⟩ := ha; exact ⟨_, rfl⟩
  · obtain ⟨_, _, _, _, _, _, rfl⟩ := ha; exact ⟨_, rfl⟩
  · obtain ⟨_, _, rfl, _⟩ := ha; exact ⟨_, rfl⟩
  · exact ⟨_, ha⟩
theorem isNilp_ok {a : AV tb.T} {x : Value} (h : isNilp a = true) (ha : R tb η m a x) : x = .pointer none := by
  cases a <;> simp only [isNilp, Bool.false_eq_true] at h <;> simp only [R] at ha
  exact ha
theorem run_und {t : TypeId} {d : TypeDesc} (h : P.underlying t = some d) (w : World) : (underlying t).run P w = .ok d w := by
  simp [underlying, h]
theorem equal_nil {t : TypeId} {ad : Addr} (h : ptrT P t = true) (w : World) : (Op.equal t (.pointer (some ad)) (.pointer none)).run P w = .ok false w ∧ (Op.equal t (.pointer none) (.pointer (some ad))).run P w = .ok false w := by
  unfold ptrT at h
  split at h
  · rename_i e he
    unfold Op.equal
    rw [show Op.maxDepth = 9999 + 1 from rfl]
    unfold Op.equalIn
    simp only [Sem.run_bind, run_und he, Result.andThen_ok]
    exact ⟨rfl, rfl⟩
  · cases h
theorem nilA_ok {op : BinOp} {t : TypeId} {p q : Operand} (h : nilA P op t a b = some v) (ha : R tb η m a x) (hb : R tb η m b y) : Run0 P tb η m (vS (do eqGuard op t p q x y; binOp op t x y)) v := by
  unfold nilA at h
  cases hc : (ptrT P t && ((isPtr a && isNilp b) || (isNilp a && isPtr b))) with
  | false => rw [hc] at h; cases h
  | true =>
    rw [hc] at h
    simp only [Bool.and_eq_true, Bool.or_eq_true] at hc
    have key : ∃ r : Option Addr × Option Addr, (∀ w, (Op.equal t x y).run P w = .ok false w) ∧ x = .pointer r.1 ∧ y = .pointer r.2 := by
      rcases hc.2 with ⟨h1, h2⟩ | ⟨h1, h2⟩
      · obtain ⟨ad, rfl⟩ := isPtr_ok h1 ha
        have := isNilp_ok h2 hb
        subst this
        exact ⟨(some ad, none), fun w => (equal_nil hc.1 w).1, rfl, rfl⟩
      · obtain ⟨ad, rfl⟩ := isPtr_ok h2 hb
        have := isNilp_ok h1 ha
        subst this
        exact ⟨(none, some ad), fun w => (equal_nil hc.1 w).2, rfl, rfl⟩
    obtain ⟨⟨r1, r2⟩, h1, rfl, rfl⟩ := key
    simp only [cond_true] at h
    split at h <;> cases h
    · refine ⟨.bool false, fun w _ => bin_run (guard_ptr _ _ _ _ _ _) ?_, rfl⟩
      show (do pure (.bool (← Op.equal t (.pointer r1) (.pointer r2))) : Sem Value).run P w = _
      rw [Sem.run_bind, h1]; rfl
    · refine ⟨.bool true, fun w _ => bin_run (guard_ptr _ _ _ _ _ _) ?_, rfl⟩
      show (do pure (.bool (!(← Op.equal t (.pointer r1) (.pointer r2)))) : Sem Value).run P w = _
      rw [Sem.run_bind, h1]; rfl
def convA {T : Nat → Type} (P : Program) (src dst : TypeId) (a : AV T) : Option (AV T) := cond (P.underlying src).isSome (match P.underlying dst with
  | some (.int .u64) => match a with
    | .u64 x => some (.u64 x) | .u32 x => some (.u64 x.toUInt64) | .u8 x => some (.u64 x.toUInt64) | .i64 x => some (.u64 (UInt64.ofInt x)) | _ => none
  | some (.int .u32) => match a with
    | .u64 x => some (.u32 x.toUInt32) | .u32 x => some (.u32 x) | .u8 x => some (.u32 x.toUInt32) | .i64 x => some (.u32 (UInt32.ofInt x)) | _ => none
  | some (.int .u8) => match a with
    | .u64 x => some (.u8 x.toUInt8) | .u32 x => some (.u8 x.toUInt8) | .u8 x => some (.u8 x) | .i64 x => some (.u8 (UInt8.ofInt x)) | _ => none
  | some (.int .i64) => match a with
    | .u32 x => some (.i64 (x.toNat : Int)) | .u16 x => some (.i64 (x.toNat : Int)) | .u8 x => some (.i64 (x.toNat : Int)) | _ => none
  | some .string => match a with
    | .str l => some (.str l) | _ => none
  | _ => none) none
theorem q32_u64 (x : UInt64) : IntKind.u32.wrap (x.toNat : Int) = (x.toUInt32.toNat : Int) := by rw [q32_m]; simp
theorem q8_u32 (x : UInt32) : IntKind.u8.wrap (x.toNat : Int) = (x.toUInt8.toNat : Int) := by rw [wu8m]; simp
theorem q64_u32 (x : UInt32) : IntKind.u64.wrap (x.toNat : Int) = (x.toUInt64.toNat : Int) := by rw [wu64m]; have := x.toNat_lt; simp; omega
theorem conv_int {src dst : TypeId} {k k' : IntKind} {z : Int} (h1 : (P.underlying src).isSome = true) (h2 : P.underlying dst = some (.int k)) (w : World) : (vS (convert src dst (.int k' z))).run P w = .ok (.value (.int k (k.wrap z))) w := by
  refine vS_run ?_
  obtain ⟨d, hd⟩ := Option.isSome_iff_exists.1 h1
  simp only [convert, Sem.run_bind, run_und hd, run_und h2, Result.andThen_ok]
  rfl
theorem convA_ok {src dst : TypeId} (h : convA P src dst a = some v) (ha : R tb η m a x) : Run0 P tb η m (vS (convert src dst x)) v := by
  unfold convA at h
  cases hs : (P.underlying src).isSome with
  | false => rw [hs] at h; cases h
  | true =>
    rw [hs] at h
    simp only [cond_true] at h
    split at h
    · rename_i hu
      split at h <;> cases h <;> simp only [R] at ha <;> subst ha
      · exact ⟨_, fun w _ => conv_int hs hu w, congrArg (Value.int .u64) (q64_self _)⟩
      · exact ⟨_, fun w _ => conv_int hs hu w, congrArg (Value.int .u64) (q64_u32 _)⟩
      · exact ⟨_, fun w _ => conv_int hs hu w, congrArg (Value.int .u64) (q64_u8 _)⟩
      · exact ⟨_, fun w _ => conv_int hs hu w, congrArg (Value.int .u64) (q64_wrap _)⟩
    · rename_i hu
      split at h <;> cases h <;> simp only [R] at ha <;> subst ha
      · exact ⟨_, fun w _ => conv_int hs hu w, congrArg (Value.int .u32) (q32_u64 _)⟩
      · exact ⟨_, fun w _ => conv_int hs hu w, congrArg (Value.int .u32) (q32_self _)⟩
      · exact ⟨_, fun w _ => conv_int hs hu w, congrArg (Value.int .u32) (q32_u8 _)⟩
      · exact ⟨_, fun w _ => conv_int hs hu w, congrArg (Value.int .u32) (q32_wrap _)⟩
    · rename_i hu
      split at h <;> cases h <;> simp only [R] at ha <;> subst ha
      · exact ⟨_, fun w _ => conv_int hs hu w, congrArg (Value.int .u8) (q8_u64 _)⟩
      · exact ⟨_, fun w _ => conv_int hs hu w, congrArg (Value.int .u8) (q8_u32 _)⟩
      · exact ⟨_, fun w _ => conv_int hs hu w, congrArg (Value.int .u8) (q8_self _)⟩
      · exact ⟨_, fun w _ => conv_int hs hu w, congrArg (Value.int .u8) (q8_wrap _)⟩
    · rename_i hu
      split at h <;> cases h <;> simp only [R] at ha <;> subst ha
      · rename_i y; exact ⟨_, fun w _ => conv_int hs hu w, congrArg (Value.int .i64) (w64 (by have := y.toNat_lt; omega))⟩
      · rename_i y; exact ⟨_, fun w _ => conv_int hs hu w, congrArg (Value.int .i64) (w64 (by have := y.toNat_lt; omega))⟩
      · rename_i y; exact ⟨_, fun w _ => conv_int hs hu w, congrArg (Value.int .i64) (w64 (by have := y.toNat_lt; omega))⟩
    · rename_i hu
      split at h <;> cases h
      obtain ⟨rfl, h2⟩ := ha
      refine ⟨_, fun w _ => vS_run ?_, rfl, h2⟩
      obtain ⟨d, hd⟩ := Option.isSome_iff_exists.1 hs
      simp only [convert, Sem.run_bind, run_und hd, run_und hu, Result.andThen_ok]
      cases d <;> rfl
    · cases h
def isAggD : TypeDesc → Bool
  | .struct _ => true
  | .array _ _ => true
  | _ => false
def fldI (P : Program) (t : TypeId) (i : Nat) : Option (Nat × Nat × Bool) := match P.underlying t with
  | some (.struct fs) => match fs[i]? with
    | some f => match P.info? f.type, P.underlying f.type with
      | some inf, some d => some (f.offset, inf.size, isAggD d)
      | _, _ => none
    | none => none
  | _ => none
theorem run_isAgg {t : TypeId} {d : TypeDesc} (h : P.underlying t = some d) (w : World) : (isAgg t).run P w = .ok (isAggD d) w := by
  simp only [isAgg, Sem.run_bind, run_und h, Result.andThen_ok]
  cases d <;> rfl
theorem run_size {t : TypeId} {i : TypeInfo} (h : P.info? t = some i) (w : World) : (sizeOf t).run P w = .ok i.size w := by
  simp [sizeOf, typeInfo, h]
theorem fldI_some {t : TypeId} {i off sz : Nat} {g : Bool} (h : fldI P t i = some (off, sz, g)) : ∃ fs f inf d, P.underlying t = some (.struct fs) ∧ fs[i]? = some f ∧ P.info? f.type = some inf ∧ P.underlying f.type = some d ∧ f.offset = off ∧ inf.size = sz ∧ isAggD d = g := by
  unfold fldI at h
  split at h
  · rename_i fs hu
    split at h
    · rename_i f hf
      split at h
      · rename_i inf d h1 h2
        cases h
        exact ⟨fs, f, inf, d, hu, hf, h1, h2, rfl, rfl, rfl⟩
      · cases h
    · cases h
  · cases h
def partA {T : Nat → Type} (l : List (AV T)) (off sz : Nat) (g : Bool) : Option (AV T) := match g with
  | true => some (.agg ((l.drop off).take sz))
  | false => l[off]?
def fieldA {T : Nat → Type} (P : Program) (t : TypeId) (i : Nat) (a : AV T) : Option (AV T) := match a with
  | .agg l => match fldI P t i with
    | some (off, sz, g) => partA l off sz g
    | none => none
  | _ => none
theorem part_ok {t : TypeId} {d : TypeDesc} {inf : TypeInfo} {l : List (AV tb.T)} {cs : List Value} {off : Nat} (h1 : P.info? t = some inf) (h2 : P.underlying t = some d) (hl : RL tb η m l cs) (h : partA l off inf.size (isAggD d) = some v) : ∃ u, (∀ w, (part t cs.toArray off).run P w = .ok u w) ∧ R tb η m v u := by
  unfold part
  cases hg : isAggD d with
  | true =>
    rw [hg] at h
    simp only [partA, Option.some.injEq] at h
    subst h
    refine ⟨.agg ((cs.drop off).take inf.size).toArray, fun w => ?_, (cs.drop off).take inf.size, rfl, (hl.drop _).take _⟩
    simp only [Sem.run_bind, run_isAgg h2, Result.andThen_ok, hg, if_true, run_size h1, Sem.run_pure]
    simp
  | false =>
    rw [hg] at h
    simp only [partA] at h
    obtain ⟨u, hu, hr⟩ := hl.get h
    refine ⟨u, fun w => ?_, hr⟩
    have : cs.toArray[off]? = some u := by simpa using hu
    simp only [Sem.run_bind, run_isAgg h2, Result.andThen_ok, hg, Bool.false_eq_true, if_false, this]
    rfl
theorem fieldA_ok {t : TypeId} {i : Nat} (h : fieldA P t i a = some v) (ha : R tb η m a x) : Run0 P tb η m (vS (Instr.field t x i)) v := by
  unfold fieldA at h
  split at h
  · obtain ⟨cs, rfl, hl⟩ := ha
    split at h
    · rename_i off sz g hf
      obtain ⟨fs, f, inf, d, h1, h2, h3, h4, rfl, rfl, rfl⟩ := fldI_some hf
      obtain ⟨u, hu, hr⟩ := part_ok h3 h4 hl h
      refine ⟨u, fun w _ => vS_run ?_, hr⟩
      simp only [Instr.field, Sem.run_bind, run_und h1, Result.andThen_ok, h2, asAgg, Sem.run_pure, hu]
    · cases h
  · cases h
def fAddrA {T : Nat → Type} (P : Program) (t : TypeId) (i : Nat) (a : AV T) : Option (AV T) := match fldI P t i with
  | some (f, sz, _) => cond (Nat.beq sz 0) none (match a with
    | .ptr id off => some (.ptr id (off + f))
    | .cells off l => some (.cells (off + f) l)
    | .elt id j n off => some (.elt id j n (off + f))
    | _ => none)
  | none => none
theorem fAddrA_ok {t : TypeId} {i : Nat} (h : fAddrA P t i a = some v) (ha : R tb η m a x) : Run0 P tb η m (vS (Instr.fieldAt t x i)) v := by
  unfold fAddrA at h
  split at h
  · rename_i f sz g hf
    obtain ⟨fs, fl, inf, d, h1, h2, h3, h4, rfl, rfl, rfl⟩ := fldI_some hf
    cases hz : Nat.beq inf.size 0 with
    | true => rw [hz] at h; cases h
    | false =>
      have hne : inf.size ≠ 0 := fun e => by rw [e] at hz; cases hz
      rw [hz] at h
      simp only [cond_false] at h
      have run : ∀ (ad : Addr) (w : World), Has m w → (vS (Instr.fieldAt t (.pointer (some ad)) i)).run P w = .ok (.value (.pointer (some (ad.add fl.offset)))) w := by
        intro ad w _
        refine vS_run ?_
        simp only [Instr.fieldAt, Sem.run_bind, run_und h1, Result.andThen_ok, h2, Instr.sureAddr, Sem.run_pure, fieldPlace, run_size h3, hne, if_false]
      split at h <;> cases h
      · obtain ⟨g, e1, rfl⟩ := ha
        exact ⟨_, run _, g, e1, by rw [Addr.add_lit]⟩
      · obtain ⟨A, cs, rfl, e1, e2⟩ := ha
        exact ⟨_, run _, A, cs, by rw [add_add], e1, e2⟩
      · obtain ⟨ad, len, c, e1, e2, e3, rfl⟩ := ha
        exact ⟨_, run _, ad, len, c, e1, e2, e3, by rw [add_add]⟩
  · cases h
def cellsA {T : Nat → Type} (a : AV T) : Option (List (AV T)) := match a with
  | .agg l => some l
  | a => cond (oneA a) (some [a]) none
theorem cells_one {v : Value} (h : v.oneCell' = true) : v.cells = #[v] := by
  cases v <;> first | rfl | cases h
theorem cellsA_ok {l : List (AV tb.T)} (h : cellsA a = some l) (ha : R tb η m a x) : RL tb η m l x.cells.toList := by
  unfold cellsA at h
  split at h
  · cases h; obtain ⟨cs, rfl, hl⟩ := ha; simpa [Value.cells] using hl
  · cases ho : oneA a with
    | false => rw [ho] at h; cases h
    | true =>
      rw [ho] at h
      cases h
      rw [cells_one (oneA_ok ha ho)]
      exact RL.mk1 ha
def splice {α : Type} (off : Nat) : List α → Nat → List α → List α
  | [], _, cs => cs
  | c :: r, j, cs => splice off r (j + 1) (cs.set (off + j) c)
theorem splice_ok (off : Nat) : ∀ {l : List (AV tb.T)} {vs : List Value} (j : Nat) {cs : List (AV tb.T)} {us : List Value}, RL tb η m l vs → RL tb η m cs us → RL tb η m (splice off l j cs) (splice off vs j us)
  | [], vs, j, cs, us, h, h' => by rw [show vs = [] from h]; exact h'
  | a :: l, vs, j, cs, us, ⟨v, r, h1, h2, h3⟩, h' => by rw [h1]; exact splice_ok off (j + 1) h3 (h'.set h2)
theorem splice_fold (off : Nat) : ∀ (vs : List Value) (j : Nat) (us : List Value), (vs.zipIdx j).foldl (fun (cs : Array Value) (c, j) => cs.setIfInBounds (off + j) c) us.toArray = (splice off vs j us).toArray
  | [], _, _ => rfl
  | v :: r, j, us => by
    rw [List.zipIdx_cons, List.foldl_cons, splice, ← splice_fold off r (j + 1)]
    congr 1
    simp
def fillA {T : Nat → Type} (place : Nat → Option (Nat × Nat)) : List (AV T) → List (Nat × AV T) → Option (List (AV T))
  | cells, [] => some cells
  | cells, (i, v) :: r => match place i with
    | none => none
    | some (off, size) => match cellsA v with
      | none => none
      | some l => cond (Nat.beq l.length size && Nat.ble (off + l.length) cells.length) (fillA place (splice off l 0 cells) r) none
def RP (tb : Tab) (η : List Value) (m : Mem) : List (Nat × AV tb.T) → List (Nat × Value) → Prop
  | [], ps => ps = []
  | (i, a) :: l, ps => ∃ v r, ps = (i, v) :: r ∧ R tb η m a v ∧ RP tb η m l r
theorem fillA_ok {place : Nat → Option (Nat × Nat)} : ∀ {ps : List (Nat × AV tb.T)} {qs : List (Nat × Value)} {cells l : List (AV tb.T)} {us : List Value}, fillA place cells ps = some l → RP tb η m ps qs → RL tb η m cells us → ∃ vs : List Value, Instr.fill place us.toArray qs = some vs.toArray ∧ RL tb η m l vs
  | [], qs, cells, l, us, h, hp, hr => by
    rw [show qs = [] from hp]
    simp only [fillA, Option.some.injEq] at h
    subst h
    exact ⟨us, rfl, hr⟩
  | (i, a) :: ps, qs, cells, l, us, h, hp, hr => by
    obtain ⟨v, r, rfl, h1, h2⟩ := hp
    simp only [fillA] at h
    cases hpl : place i with
    | none => rw [hpl] at h; cases h
    | some os =>
      obtain ⟨off, size⟩ := os
      rw [hpl] at h
      simp only at h
      cases hc : cellsA a with
      | none => rw [hc] at h; cases h
      | some cl =>
        rw [hc] at h
        simp only at h
        have hcl := cellsA_ok hc h1
        cases hb : (Nat.beq cl.length size && Nat.ble (off + cl.length) cells.length) with
        | false => rw [hb] at h; cases h
        | true =>
          rw [hb] at h
          rw [Bool.and_eq_true] at hb
          have e1 := beq_t hb.1
          have e2 := Nat.le_of_ble_eq_true hb.2
          simp only [cond_true] at h
          have hlen : v.cells.size = cl.length := by rw [← hcl.len]; simp
          obtain ⟨vs, h3, h4⟩ := fillA_ok h h2 (splice_ok off 0 hcl hr)
          refine ⟨vs, ?_, h4⟩
          have hn : ¬ ((decide (v.cells.size ≠ size) || decide (off + v.cells.size > us.toArray.size)) = true) := by
            simp only [Bool.or_eq_true, decide_eq_true_eq, List.size_toArray, hr.len, hlen]
            omega
          simp only [Instr.fill, hpl]
          rw [if_neg hn, ← h3]
          congr 1
          rw [← splice_fold, ← Array.toList_zipIdx, ← Array.foldl_toList]
def zerosA {T : Nat → Type} (P : Program) (t : TypeId) : Option (List (AV T)) := match P.info? t with
  | some i => match i.zero with
    | some z => some (z.cells.toList.map cst1)
    | none => none
  | none => none
theorem zerosA_ok {t : TypeId} {l : List (AV tb.T)} (h : zerosA P t = some l) : ∃ z, (∀ w, (zeroValue t).run P w = .ok z w) ∧ RL tb η m l z.cells.toList := by
  unfold zerosA at h
  split at h
  · rename_i i hi
    split at h
    · rename_i z hz
      cases h
      exact ⟨z, fun w => by simp [zeroValue, typeInfo, hi, hz], cst1L_ok _⟩
    · cases h
  · cases h
def placesL (P : Program) : List Field → Option (List (Nat × Nat))
  | [] => some []
  | f :: r => match P.info? f.type with
    | some i => match placesL P r with
      | some l => some ((f.offset, i.size) :: l)
      | none => none
    | none => none
theorem placesL_run : ∀ {fs : List Field} {ps : List (Nat × Nat)}, placesL P fs = some ps → ∀ w, (List.mapM (m := Sem) (fun f => do pure (f.offset, ← sizeOf f.type)) fs).run P w = .ok ps w
  | [], ps, h, w => by simp only [placesL, Option.some.injEq] at h; subst h; rfl
  | f :: r, ps, h, w => by
    simp only [placesL] at h
    cases hi : P.info? f.type with
    | none => rw [hi] at h; cases h
    | some i =>
      rw [hi] at h
      simp only at h
      cases hr : placesL P r with
      | none => rw [hr] at h; cases h
      | some l =>
        rw [hr] at h
        cases h
        rw [List.mapM_cons]
        simp only [Sem.run_bind, run_size hi, Result.andThen_ok, Sem.run_pure, placesL_run hr]
def placeA (P : Program) (t : TypeId) : Option (Nat → Option (Nat × Nat)) := match P.underlying t with
  | some (.struct fs) => match placesL P fs.toList with
    | some ps => some (fun i => ps[i]?)
    | none => none
  | some (.array _ e) => match P.info? e with
    | some i => some (fun j => some (j * i.size, i.size))
    | none => none
  | _ => none
def partsA {T : Nat → Type} (ev : Operand → Option (AV T)) : List (Nat × Operand) → Option (List (Nat × AV T))
  | [] => some []
  | (i, x) :: r => match ev x with
    | some a => match partsA ev r with
      | some l => some ((i, a) :: l)
      | none => none
    | none => none
theorem partsA_ok {ev : Operand → Option (AV tb.T)} {ρ : Operand → Value} (he : Ev tb η m ev ρ) : ∀ {ps : List (Nat × Operand)} {l : List (Nat × AV tb.T)}, partsA ev ps = some l → RP tb η m l (ps.map fun (i, x) => (i, ρ x))
  | [], l, h => by simp only [partsA, Option.some.injEq] at h; subst h; rfl
  | (i, x) :: r, l, h => by
    simp only [partsA] at h
    cases h1 : ev x with
    | none => rw [h1] at h; cases h
    | some a =>
      rw [h1] at h
      simp only at h
      cases h2 : partsA ev r with
      | none => rw [h2] at h; cases h
      | some l =>
        rw [h2] at h
        cases h
        exact ⟨_, _, rfl, he x a h1, partsA_ok he h2⟩
def buildA {T : Nat → Type} (P : Program) (ev : Operand → Option (AV T)) (t : TypeId) (ps : Array (Nat × Operand)) : Option (AV T) := match placeA P t, zerosA P t, partsA ev ps.toList with
  | some pl, some z, some l => match fillA pl z l with
    | some cs => some (.agg cs)
    | none => none
  | _, _, _ => none
theorem buildA_ok {ev : Operand → Option (AV tb.T)} {ρ : Operand → Value} (he : Ev tb η m ev ρ) {t : TypeId} {ps : Array (Nat × Operand)} (h : buildA P ev t ps = some v) : Run0 P tb η m (vS (Instr.build t (ps.map fun (i, x) => (i, ρ x)))) v := by
  unfold buildA at h
  split at h
  · rename_i pl z l h1 h2 h3
    split at h
    · rename_i cs h4
      cases h
      obtain ⟨z0, hz, hzr⟩ := zerosA_ok (tb := tb) (η := η) (m := m) h2
      obtain ⟨vs, hf, hv⟩ := fillA_ok h4 (partsA_ok he h3) hzr
      refine ⟨.agg vs.toArray, fun w _ => vS_run ?_, vs, rfl, hv⟩
      have hps : (ps.map fun (i, x) => (i, ρ x)).toList = ps.toList.map fun (i, x) => (i, ρ x) := by simp
      have hzz : z0.cells.toList.toArray = z0.cells := by simp
      rw [hzz] at hf
      unfold placeA at h1
      simp only [Instr.build, Sem.run_bind, hz, Result.andThen_ok]
      split at h1
      · rename_i fs hu
        split at h1
        · rename_i pp hpp
          cases h1
          simp only [run_und hu, Result.andThen_ok]
          have hm : (fs.mapM (m := Sem) fun f => do pure (f.offset, ← sizeOf f.type)).run P w = .ok pp.toArray w := by
            have e : fs = fs.toList.toArray := by simp
            rw [e, List.mapM_toArray]
            rw [show ∀ (X : Sem (List (Nat × Nat))), (List.toArray <$> X : Sem (Array (Nat × Nat))) = X >>= fun l => pure l.toArray from fun _ => rfl]
            rw [Sem.run_bind, placesL_run hpp]
            rfl
          simp only [hm, Sem.run_bind, Result.andThen_ok, hps]
          have e2 : (fun x : Nat => pp.toArray[x]?) = fun i => pp[i]? := by funext i; simp
          rw [e2, hf]
          rfl
        · cases h1
      · rename_i n e hu
        split at h1
        · rename_i i hi
          cases h1
          simp only [run_und hu, Result.andThen_ok, Sem.run_bind, run_size hi, hps]
          rw [hf]
          rfl
        · cases h1
      · cases h1
    · cases h
  · cases h
end
end Go.Proofs.YtkmhidggbnbaaaaGreatDoor.K.E
set_option linter.unusedVariables false
set_option linter.unusedSimpArgs false
set_option linter.unusedSectionVars false
namespace Go.Proofs.YtkmhidggbnbaaaaGreatDoor.K.E
open Go Go.RowKit
section
variable {T : Nat → Type}
def isFnA : AV T → Bool
  | .fn _ _ _ => true
  | _ => false
def lenA (P : Program) (t : TypeId) (a : AV T) : Option (AV T) := match P.underlying t with
  | some (.slice _) => match a with
    | .sl _ l => some (.i64 (l.length : Int))
    | .nils => some (.i64 0)
    | _ => none
  | some .string => match a with
    | .str l => some (.i64 (l.length : Int))
    | _ => none
  | _ => none
def callV (P : Program) (ev : Operand → Option (AV T)) (o : Oper) (c : Call) : Option (AV T) := match c.callee with
  | .builtin .len => match c.args.toList, c.argTypes.toList with
    | [x], [t] => match ev x with
      | some a => lenA P t a
      | none => none
    | _, _ => none
  | .builtin .max => fb P ev o
  | .builtin .min => fb P ev o
  | _ => none
def iV (l : List Int) : Value := .agg (l.map fun x => Value.int .i64 x).toArray
def intsA : List (AV T) → Option (List Int)
  | [] => some []
  | .i64 x :: r => match intsA r with
    | some l => some (x :: l)
    | none => none
  | _ => none
def mkI (P : Program) (t : TypeId) (a : AV T) : Option (AV T) := match a with
  | .agg l => match P.underlying t with
    | some (.struct _) => match intsA l with
      | some x => some (.lit (.iface t (iV x)))
      | none => none
    | _ => none
  | _ => none
def opV (P : Program) (ev : Operand → Option (AV T)) (o : Oper) : Option (AV T) := match o.op with
  | .move x => ev x
  | .assign x => ev x
  | .nilCheck x => match ev x with
    | some a => cond (isPtr a || isFnA a) (some a) none
    | none => none
  | .extract x i => match ev x with
    | some (.tup l) => l[i]?
    | _ => fb P ev o
  | .field t x i => match ev x with
    | some a => fieldA P t i a
    | none => none
  | .build t ps => buildA P ev t ps
  | .fieldAddr t x i => match ev x with
    | some a => fAddrA P t i a
    | none => none
  | .makeFunc (.func f) first cap => match evL ev first.toList, evL ev cap.toList with
    | some l, some c => some (.fn f l c)
    | _, _ => none
  | .binOp op t x y _ => match ev x, ev y with
    | some a, some b => match binU op a b with
      | some v => some v
      | none => match nilA P op t a b with
        | some v => some v
        | none => fb P ev o
    | _, _ => none
  | .unOp op _ x => match ev x with
    | some a => match unA op a with
      | some v => some v
      | none => fb P ev o
    | none => none
  | .convert s d x => match ev x with
    | some a => match convA P s d a with
      | some v => some v
      | none => fb P ev o
    | none => none
  | .makeInterface t x => match ev x with
    | some a => mkI P t a
    | none => none
  | .pick _ _ _ => fb P ev o
  | .call c => callV P ev o c
  | _ => none
end
section
variable {P : Program} {tb : Tab} {η : List Value} {m : Mem} {ev : Operand → Option (AV tb.T)} {ρ : Operand → Value} {o : Oper} {v a b : AV tb.T} {x y : Value}
theorem exec_move {z : Operand} (h : o.op = .move z) : execOp ρ o = pure (.value (ρ z)) := by unfold execOp; rw [h]
theorem exec_assign {z : Operand} (h : o.op = .assign z) : execOp ρ o = pure (.value (ρ z)) := by unfold execOp; rw [h]
theorem exec_extract {z : Operand} {i : Nat} (h : o.op = .extract z i) : execOp ρ o = vS (Instr.extract (ρ z) i) := by unfold execOp; rw [h]; rfl
theorem exec_field {z : Operand} {t i : Nat} (h : o.op = .field t z i) : execOp ρ o = vS (Instr.field t (ρ z) i) := by unfold execOp; rw [h]; rfl
theorem exec_build {t : TypeId} {ps : Array (Nat × Operand)} (h : o.op = .build t ps) : execOp ρ o = vS (Instr.build t (ps.map fun (i, x) => (i, ρ x))) := by unfold execOp; rw [h]; rfl
theorem exec_fieldAddr {z : Operand} {t i : Nat} (h : o.op = .fieldAddr t z i) : execOp ρ o = vS (Instr.fieldAt t (ρ z) i) := by unfold execOp; rw [h]; rfl
theorem exec_makeFunc {f : Fn} {l c : Array Operand} (h : o.op = .makeFunc f l c) : execOp ρ o = vS (Instr.makeFunc f (l.map ρ) (c.map ρ)) := by unfold execOp; rw [h]; rfl
theorem exec_binOp {op : BinOp} {t yt : TypeId} {p q : Operand} (h : o.op = .binOp op t p q yt) : execOp ρ o = vS (do eqGuard op t p q (ρ p) (ρ q); binOp op t (ρ p) (ρ q)) := by unfold execOp; rw [h]; rfl
theorem exec_unOp {op : UnOp} {t : TypeId} {z : Operand} (h : o.op = .unOp op t z) : execOp ρ o = vS (Op.unary op (ρ z)) := by unfold execOp; rw [h]; rfl
theorem exec_convert {s d : TypeId} {z : Operand} (h : o.op = .convert s d z) : execOp ρ o = vS (convert s d (ρ z)) := by unfold execOp; rw [h]; rfl
theorem exec_builtin {c : Call} {b : Builtin} (h : o.op = .call c) (hc : c.callee = .builtin b) : execOp ρ o = builtin b c.argTypes o.type (c.args.map fun | .const _ => true | _ => false) (c.args.map ρ) := by
  unfold execOp; rw [h]; simp only [resolve, hc]; rfl
theorem Run0.fix {P : Program} {s : Sem Next} {u : Value} (h : ∀ w, s.run P w = .ok (.value u) w) (hr : R tb η m v u) : Run0 P tb η m s v := ⟨u, fun w _ => h w, hr⟩
theorem lenA_ok {t : TypeId} (h : lenA P t a = some v) (ha : R tb η m a x) (ty : TypeId) : Run0 P tb η m (vS (Builtin.len_ #[t] ty #[x])) v := by
  unfold lenA at h
  split at h
  · rename_i e hu
    split at h <;> cases h
    · obtain ⟨A, c, rfl, _⟩ := ha
      refine Run0.fix (fun w => vS_run ?_) rfl
      simp only [Builtin.len_, List.getElem?_toArray, List.getElem?_cons_zero, Sem.run_bind, run_und hu, Result.andThen_ok]
      rfl
    · have ha : x = _ := ha
      subst ha
      refine Run0.fix (fun w => vS_run ?_) rfl
      simp only [Builtin.len_, List.getElem?_toArray, List.getElem?_cons_zero, Sem.run_bind, run_und hu, Result.andThen_ok]
      rfl
  · rename_i hu
    split at h <;> cases h
    obtain ⟨rfl, _⟩ := ha
    refine Run0.fix (fun w => vS_run ?_) rfl
    simp only [Builtin.len_, List.getElem?_toArray, List.getElem?_cons_zero, Sem.run_bind, run_und hu, Result.andThen_ok]
    rfl
  · cases h
theorem isFn_ok (h : isFnA a = true) (ha : R tb η m a x) : ∃ f xs ys, x = .func (.func f) xs ys := by
  cases a <;> simp only [isFnA, Bool.false_eq_true] at h
  obtain ⟨xs, ys, rfl, _⟩ := ha
  exact ⟨_, _, _, rfl⟩
theorem intsA_ok : ∀ {l : List (AV tb.T)} {xs : List Int} {cs : List Value}, intsA l = some xs → RL tb η m l cs → cs = xs.map fun x => Value.int .i64 x
  | [], xs, cs, h, hr => by
    simp only [intsA, Option.some.injEq] at h; subst h; exact hr
  | a :: r, xs, cs, h, ⟨v, vs, h1, h2, h3⟩ => by
    subst h1
    unfold intsA at h
    split at h
    · rename_i e; cases e
    · rename_i x r' e
      cases e
      split at h
      · rename_i l' hl
        cases h
        have h2 : v = .int .i64 x := h2
        rw [intsA_ok hl h3, h2]; rfl
      · cases h
    · cases h
theorem opV_ok (he : Ev tb η m ev ρ) (h : opV P ev o = some v) : Run0 P tb η m (execOp ρ o) v := by
  unfold opV at h
  split at h
  · rename_i z ho
    rw [exec_move ho]; exact Run0.fix (fun _ => rfl) (he _ _ h)
  · rename_i z ho
    rw [exec_assign ho]; exact Run0.fix (fun _ => rfl) (he _ _ h)
  · rename_i z ho
    split at h
    · rename_i a ha
      have hr := he _ _ ha
      cases hc : (isPtr a || isFnA a) with
      | false => rw [hc] at h; cases h
      | true =>
        rw [hc] at h
        cases h
        refine Run0.fix (u := ρ z) (fun w => ?_) hr
        rw [Bool.or_eq_true] at hc
        rcases hc with hc | hc
        · obtain ⟨ad, hx⟩ := isPtr_ok hc hr
          unfold execOp
          rw [ho]
          simp only [hx]
          rfl
        · obtain ⟨f, xs, ys, hx⟩ := isFn_ok hc hr
          unfold execOp
          rw [ho]
          simp only [hx]
          rfl
    · cases h
  · rename_i z i ho
    split at h
    · rename_i l hl
      rw [exec_extract ho]
      obtain ⟨cs, hx, hr⟩ := he _ _ hl
      obtain ⟨u, hu, hr2⟩ := hr.get h
      refine Run0.fix (fun w => vS_run ?_) hr2
      rw [hx]
      have : cs.toArray[i]? = some u := by simpa using hu
      simp only [Instr.extract, this]
      rfl
    · exact fb_ok h he
  · rename_i t z i ho
    split at h
    · rename_i a ha
      rw [exec_field ho]; exact fieldA_ok h (he _ _ ha)
    · cases h
  · rename_i t ps ho
    rw [exec_build ho]; exact buildA_ok he h
  · rename_i t z i ho
    split at h
    · rename_i a ha
      rw [exec_fieldAddr ho]; exact fAddrA_ok h (he _ _ ha)
    · cases h
  · rename_i f l c ho
    split at h
    · rename_i as bs h1 h2
      cases h
      rw [exec_makeFunc ho]
      refine Run0.fix (u := .func (.func f) (l.map ρ) (c.map ρ)) (fun w => rfl) ⟨l.toList.map ρ, c.toList.map ρ, ?_, evL_ok he h1, evL_ok he h2⟩
      rw [← Array.toList_map, ← Array.toList_map, Array.toArray_toList, Array.toArray_toList]
    · cases h
  · rename_i op t p q yt ho
    split at h
    · rename_i a b ha hb
      split at h
      · rename_i v' hv
        cases h
        rw [exec_binOp ho]; exact binU_ok hv (he _ _ ha) (he _ _ hb)
      · split at h
        · rename_i v' hv
          cases h
          rw [exec_binOp ho]; exact nilA_ok hv (he _ _ ha) (he _ _ hb)
        · exact fb_ok h he
    · cases h
  · rename_i op t z ho
    split at h
    · rename_i a ha
      split at h
      · rename_i v' hv
        cases h
        rw [exec_unOp ho]; exact unA_ok hv (he _ _ ha)
      · exact fb_ok h he
    · cases h
  · rename_i s d z ho
    split at h
    · rename_i a ha
      split at h
      · rename_i v' hv
        cases h
        rw [exec_convert ho]; exact convA_ok hv (he _ _ ha)
      · exact fb_ok h he
    · cases h
  · rename_i t z ho
    split at h
    · rename_i a ha
      unfold mkI at h
      split at h
      · rename_i al
        split at h
        · rename_i fs hu
          split at h
          · rename_i xs hxs
            cases h
            have hr : R tb η m (.agg al) (ρ z) := he _ _ ha
            obtain ⟨cs, hx, h2⟩ := hr
            have h2 := intsA_ok hxs h2
            subst h2
            refine Run0.fix (u := .iface t (iV xs)) (fun w => ?_) rfl
            unfold execOp
            rw [ho]
            simp only [hx]
            refine vS_run ?_
            simp [Instr.makeInterface, run_underlying hu, iV]
          · cases h
        · cases h
      · cases h
    · cases h
  · exact fb_ok h he
  · rename_i c ho
    unfold callV at h
    split at h
    · rename_i hc
      split at h
      · rename_i z t hx ht
        split at h
        · rename_i a ha
          have h1 : c.args = #[z] := by rw [← Array.toArray_toList (xs := c.args), hx]
          have h2 : c.argTypes = #[t] := by rw [← Array.toArray_toList (xs := c.argTypes), ht]
          rw [exec_builtin ho hc, h1, h2, show (#[z] : Array Operand).map ρ = #[ρ z] from by simp]
          exact lenA_ok h (he _ _ ha) o.type
        · cases h
      · cases h
    · exact fb_ok h he
    · exact fb_ok h he
    · cases h
  · cases h
end
end Go.Proofs.YtkmhidggbnbaaaaGreatDoor.K.E
