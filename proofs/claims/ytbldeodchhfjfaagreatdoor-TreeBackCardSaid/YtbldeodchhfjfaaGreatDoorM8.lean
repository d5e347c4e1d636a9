/- Rows whose elements own memory: an element taken out, changed, laid back. -/
import Derived.Test.YtbldeodchhfjfaaGreatDoorM7
set_option linter.unusedVariables false
set_option linter.unusedSimpArgs false
set_option linter.unusedSectionVars false
namespace Go.Proofs.YtbldeodchhfjfaaGreatDoor.K
open Go Go.RowKit Go.Op

/-- A representation that owns memory: of an element's cells, the item. -/
structure ORep (α : Type) where
  fr : Rep α
  it : List Value → α → Item
  len : ∀ {m w F cs x}, (it cs x).P m w F → cs.length = fr.sz
  one : ∀ {m w F cs x}, (it cs x).P m w F → ∀ u ∈ cs, u.oneCell' = true
  fix : ∀ {m m1 : Mem} {w : World} {F cs x}, (it cs x).P m w F → Sub m m1 → (∀ k, F k → m1 k = w.heap[k]?) → fr.im m1 cs x
/-- A row's block and its cells. -/
def rawI (t sz : Nat) (A : Option Addr) (c n : Nat) (xs : List Value) : Item where
  P _ w F := w.ownsRow 0 t sz (.slice A n c) n xs ∧ ∀ k, F k ↔ (Value.slice A n c).ownBlock = some k
  loc := fun ⟨h, hF⟩ hk => ⟨own_loc h (fun k e => hk k ((hF k).2 e)), hF⟩
  mono _ h := h
  dom := fun ⟨h, hF⟩ k hk => own_lt h k ((hF k).1 hk).symm
def els {α : Type} (o : ORep α) (css : List (List Value)) (l : List α) : List Item := (css.zip l).map fun x => o.it x.1 x.2
/-- A row whose elements own memory. -/
def rowO {α : Type} (o : ORep α) (t : TypeId) (A : Option Addr) (c : Nat) (l : List α) : Item :=
  exI fun css : List (List Value) => bigI (facI (css.length = l.length) :: rawI t o.fr.sz A c l.length css.flatten :: els o css l)
/-- .. one of them taken out: its cells. -/
def holeO {α : Type} (o : ORep α) (t : TypeId) (A : Option Addr) (c : Nat) (l : List α) (i : Nat) (cs : List Value) : Item :=
  exI fun q : List (List Value) × List (List Value) => bigI (facI (q.1.length = i ∧ q.1.length + 1 + q.2.length = l.length ∧ (∀ z ∈ q.1, z.length = o.fr.sz) ∧ cs.length = o.fr.sz) :: rawI t o.fr.sz A c l.length (q.1.flatten ++ (cs ++ q.2.flatten)) :: (els o q.1 (l.take i) ++ els o q.2 (l.drop (i + 1))))

theorem els_app {α : Type} (o : ORep α) {a b : List (List Value)} {l k : List α} (h : a.length = l.length) : els o (a ++ b) (l ++ k) = els o a l ++ els o b k := by
  unfold els
  rw [List.zip_append h, List.map_append]
theorem flat_sz {α : Type} (o : ORep α) {m : Mem} {w : World} : ∀ {css : List (List Value)} {l : List α} {F : Nat → Prop}, css.length = l.length → Sep m w (els o css l) F → ∀ z ∈ css, z.length = o.fr.sz
  | [], _, _, _, _ => by simp
  | z :: css, [], _, h, _ => by simp at h
  | z :: css, x :: l, F, h, ⟨F1, F2, h1, h2, _⟩ => by
    intro y hy
    rcases List.mem_cons.1 hy with rfl | hy
    · exact o.len h1
    · exact flat_sz o (by simpa using h) h2 y hy
theorem flat_lenO {sz : Nat} : ∀ {css : List (List Value)}, (∀ z ∈ css, z.length = sz) → css.flatten.length = css.length * sz
  | [], _ => by simp
  | z :: css, h => by
    rw [List.flatten_cons, List.length_append, h z (by simp), flat_lenO (fun y hy => h y (by simp [hy])), List.length_cons, Nat.add_mul]
    omega
section
variable {w0 : World} {F0 : Nat → Prop} {m0 m : Mem} {σ τ : List Item} {w w1 : World} {α : Type} {o : ORep α}
theorem St.unfac0 {p : Prop} (H : St w0 F0 m0 m (facI p :: σ) w) : p ∧ St w0 F0 m0 m σ w := by
  obtain ⟨F, ⟨F1, F2, h1, h2, h3, h4⟩, h5⟩ := H.sep
  exact ⟨h1.1, H.drop0⟩
theorem St.fac0 {p : Prop} (h : p) (H : St w0 F0 m0 m σ w) : St w0 F0 m0 m (facI p :: σ) w :=
  H.sepr fun F hs => ⟨fun _ => False, F, ⟨h, fun _ e => e⟩, hs, fun _ e => e.elim, fun k => ⟨.inr, fun e => e.elim False.elim id⟩⟩
/-- Items in another order. -/
theorem St.perm (H : St w0 F0 m0 m σ w) (h : σ.Perm τ) : St w0 F0 m0 m τ w := H.sepr fun F hs => by
  have key : ∀ {σ τ : List Item}, σ.Perm τ → ∀ F, Sep m w σ F → Sep m w τ F := by
    intro σ τ h
    induction h with
    | nil => intro F h; exact h
    | cons x _ ih => rintro F ⟨F1, F2, h1, h2, h3⟩; exact ⟨F1, F2, h1, ih F2 h2, h3⟩
    | swap x y l =>
      rintro F ⟨F1, F2, h1, ⟨F3, F4, h2, h3, h4, h5⟩, h6, h7⟩
      refine ⟨F3, fun k => F1 k ∨ F4 k, h2, ⟨F1, F4, h1, h3, fun k a b => h6 k a ((h5 k).2 (.inr b)), fun k => Iff.rfl⟩, ?_, ?_⟩
      · intro k a b
        exact b.elim (fun b => h6 k b ((h5 k).2 (.inl a))) (h4 k a)
      · intro k
        rw [h7, h5, or_left_comm]
    | trans _ _ i1 i2 => intro F h; exact i2 F (i1 F h)
  exact key h F hs
theorem St.openO (H : St w0 F0 m0 m σ w) (n : Nat) {t c : Nat} {A : Option Addr} {l : List α} (hn : σ[n]? = some (rowO o t A c l)) {i : Nat} {x : α} (hx : l[i]? = some x) :
    ∃ cs, St w0 F0 m0 m (o.it cs x :: holeO o t A c l i cs :: σ.eraseIdx n) w := by
  obtain ⟨css, H1⟩ := (H.pull n hn).unex
  obtain ⟨hl, H2⟩ := H1.unbig.unfac0
  have hi := (List.getElem?_eq_some_iff.1 hx).1
  have hxe : l[i] = x := (List.getElem?_eq_some_iff.1 hx).2
  have hic : i < css.length := by omega
  have hsz : ∀ z ∈ css, z.length = o.fr.sz := by
    obtain ⟨F, h1, _⟩ := H2.sep
    obtain ⟨F1, F2, _, h2, _⟩ := (h1 : Sep m w (rawI t o.fr.sz A c l.length css.flatten :: (els o css l ++ σ.eraseIdx n)) F)
    obtain ⟨G1, G2, h3, _⟩ := Sep.app.1 h2
    exact flat_sz o hl h3
  have e1 : css = css.take i ++ (css[i] :: css.drop (i + 1)) := by rw [List.getElem_cons_drop, List.take_append_drop]
  have e2 : l = l.take i ++ (x :: l.drop (i + 1)) := by rw [← hxe, List.getElem_cons_drop, List.take_append_drop]
  refine ⟨css[i], ?_⟩
  have e3 : els o css l = els o (css.take i) (l.take i) ++ (o.it css[i] x :: els o (css.drop (i + 1)) (l.drop (i + 1))) := by
    conv => lhs; rw [e1, e2, els_app o (by rw [List.length_take, List.length_take]; omega)]
    rfl
  have e4 : css.flatten = (css.take i).flatten ++ (css[i] ++ (css.drop (i + 1)).flatten) := by
    conv => lhs; rw [e1]
    rw [List.flatten_append, List.flatten_cons]
  have H2 : St w0 F0 m0 m (rawI t o.fr.sz A c l.length css.flatten :: (els o css l ++ σ.eraseIdx n)) w := H2
  rw [e3, e4] at H2
  refine St.perm (σ := holeO o t A c l i css[i] :: o.it css[i] x :: σ.eraseIdx n) ?_ (List.Perm.swap _ _ _)
  refine St.exi (css.take i, css.drop (i + 1)) (St.big _ ?_)
  refine St.fac0 ⟨by rw [List.length_take]; omega, by rw [List.length_take, List.length_drop]; omega, fun z hz => hsz z (List.mem_of_mem_take hz), hsz _ (List.getElem_mem hic)⟩ ?_
  refine H2.perm (List.Perm.cons _ (?_ : List.Perm _ ((els o (css.take i) (l.take i) ++ els o (css.drop (i + 1)) (l.drop (i + 1))) ++ (o.it css[i] x :: σ.eraseIdx n))))
  simp only [List.append_assoc, List.cons_append]
  refine List.Perm.append_left _ ?_
  exact (List.perm_middle (l₁ := els o (css.drop (i + 1)) (l.drop (i + 1))) (l₂ := σ.eraseIdx n) (a := o.it css[i] x)).symm
theorem St.closeO {t c i : Nat} {A : Option Addr} {l : List α} {cs : List Value} {x' : α} (H : St w0 F0 m0 m (o.it cs x' :: holeO o t A c l i cs :: σ) w) : St w0 F0 m0 m (rowO o t A c (l.set i x') :: σ) w := by
  obtain ⟨⟨q1, q2⟩, H1⟩ := (H.perm (List.Perm.swap _ _ _)).unex
  obtain ⟨⟨h1, h2, h3, h4⟩, H2⟩ := H1.unbig.unfac0
  dsimp only at h1 h2 h3 h4
  have hil : i < l.length := by omega
  refine St.exi (q1 ++ cs :: q2) (St.big _ (St.fac0 (by rw [List.length_set]; simp; omega) ?_))
  have e2 : l.set i x' = l.take i ++ (x' :: l.drop (i + 1)) := by rw [List.set_eq_take_append_cons_drop, if_pos hil]
  have e3 : els o (q1 ++ cs :: q2) (l.set i x') = els o q1 (l.take i) ++ (o.it cs x' :: els o q2 (l.drop (i + 1))) := by
    rw [e2, els_app o (by rw [List.length_take]; omega)]
    rfl
  rw [e3, List.length_set, show (q1 ++ cs :: q2).flatten = q1.flatten ++ (cs ++ q2.flatten) by simp]
  have H2 : St w0 F0 m0 m (rawI t o.fr.sz A c l.length (q1.flatten ++ (cs ++ q2.flatten)) :: ((els o q1 (l.take i) ++ els o q2 (l.drop (i + 1))) ++ (o.it cs x' :: σ))) w := H2
  refine H2.perm (List.Perm.cons _ (?_ : List.Perm _ ((els o q1 (l.take i) ++ (o.it cs x' :: els o q2 (l.drop (i + 1)))) ++ σ)))
  simp only [List.append_assoc, List.cons_append]
  refine List.Perm.append_left _ ?_
  exact List.perm_middle
theorem St.raw {t sz c k : Nat} {A : Option Addr} {xs : List Value} (H : St w0 F0 m0 m (rawI t sz A c k xs :: σ) w) : w.ownsRow 0 t sz (.slice A k c) k xs := by
  obtain ⟨F, h1, _⟩ := H.upd 0 rfl
  exact h1.1
/-- What stands in the cells of the element that is taken out. -/
theorem St.holeAt (H : St w0 F0 m0 m σ w) (n : Nat) {t c i : Nat} {A : Option Addr} {l : List α} {cs : List Value} (hn : σ[n]? = some (holeO o t A c l i cs)) (h0 : 0 < o.fr.sz) :
    ∃ ad, A = some ad ∧ cs.length = o.fr.sz ∧ i < l.length ∧ ∀ j v, cs[j]? = some v → w.cell? ((ad.add (i * o.fr.sz)).add j) = some v := by
  obtain ⟨⟨q1, q2⟩, H1⟩ := (H.pull n hn).unex
  obtain ⟨⟨h1, h2, h3, h4⟩, H2⟩ := H1.unbig.unfac0
  dsimp only at h1 h2 h3 h4
  have ho := St.raw (t := t) H2
  have hq := flat_lenO h3
  have hget : ∀ j v, cs[j]? = some v → (q1.flatten ++ (cs ++ q2.flatten))[i * o.fr.sz + j]? = some v := by
    intro j v hj
    have hjl := (List.getElem?_eq_some_iff.1 hj).1
    rw [List.getElem?_append_right (by rw [hq, h1]; omega), hq, h1, List.getElem?_append_left (by omega), show i * o.fr.sz + j - i * o.fr.sz = j by omega]
    exact hj
  obtain ⟨ad, rfl, _, _, _⟩ := Cs.of_own ho _ _ (hget 0 _ (List.getElem?_eq_getElem (by omega)))
  refine ⟨ad, rfl, h4, by omega, fun j v hj => ?_⟩
  obtain ⟨ad', e, _, _, h6⟩ := Cs.of_own ho _ _ (hget j v hj)
  cases e
  rw [add_add]
  exact h6
theorem St.rowOA (H : St w0 F0 m0 m σ w) (n : Nat) {t c i : Nat} {A : Option Addr} {l : List α} (hn : σ[n]? = some (rowO o t A c l)) {x : α} (hx : l[i]? = some x) : ∃ ad, A = some ad := by
  obtain ⟨css, H1⟩ := (H.pull n hn).unex
  obtain ⟨hl, H2⟩ := H1.unbig.unfac0
  have ho := St.raw (t := t) H2
  have hi := (List.getElem?_eq_some_iff.1 hx).1
  rcases ho.2 with ⟨_, h0⟩ | ⟨g, cap, cur, hv, _⟩
  · omega
  · cases hv; exact ⟨_, rfl⟩
theorem St.holeCell (H : St w0 F0 m0 m σ w) (n : Nat) {t c i : Nat} {A : Option Addr} {l : List α} {cs : List Value} (hn : σ[n]? = some (holeO o t A c l i cs)) {ad : Addr} (hA : A = some ad) (h0 : 0 < o.fr.sz) :
    ∀ j v, cs[j]? = some v → w.cell? ((ad.add (i * o.fr.sz)).add j) = some v := by
  obtain ⟨ad', e, _, _, h⟩ := H.holeAt n hn h0
  subst hA
  cases e
  exact h
theorem St.holeLen (H : St w0 F0 m0 m σ w) (n : Nat) {t c i : Nat} {A : Option Addr} {l : List α} {cs : List Value} (hn : σ[n]? = some (holeO o t A c l i cs)) : cs.length = o.fr.sz := by
  obtain ⟨⟨q1, q2⟩, H1⟩ := (H.pull n hn).unex
  obtain ⟨⟨h1, h2, h3, h4⟩, H2⟩ := H1.unbig.unfac0
  exact h4
end
section
variable {P : Program} {B : Code} {n : Cx} {p : List Nat} {i : Nat} {κ : Kn} {w : World} {Z : Kn → World → Prop} {w0 : World} {F0 : Nat → Prop} {m0 m : Mem} {σ : List Item} {α : Type} {o : ORep α}
/-- A store into a cell of the element that is taken out. -/
theorem stHoleS (d : Option Nat) (t : TypeId) (n' i' j q : Nat) (A : Option Addr) (c : Nat) (l : List α) (e : TypeId) (cs : List Value) (v : Value) (ad : Addr) (H : St w0 F0 m0 m σ w) (hn : σ[n']? = some (holeO o e A c l i' cs)) (hA : A = some ad)
    (ho : fetch B n p i κ = some (d, uS (Instr.storeAt t (.pointer (some (ad.add q))) v))) (hq : q = i' * o.fr.sz + j) (ht : oneB P t = true) (hv : v.oneCell' = true) (hj : j < cs.length)
    (hk : ∀ w1, St w0 F0 m0 m (holeO o e A c l i' (cs.set j v) :: σ.eraseIdx n') w1 → Z (putk d undef κ) w1) : Step P B n p i κ w Z := by
  obtain ⟨⟨q1, q2⟩, H1⟩ := (H.pull n' hn).unex
  obtain ⟨⟨h1, h2, h3, h4⟩, H2⟩ := H1.unbig.unfac0
  dsimp only at h1 h2 h3 h4
  have H2 : St w0 F0 m0 m (rawI e o.fr.sz A c l.length (q1.flatten ++ (cs ++ q2.flatten)) :: ((els o q1 (l.take i') ++ els o q2 (l.drop (i' + 1))) ++ σ.eraseIdx n')) w := H2
  obtain ⟨F, ⟨ho1, hF⟩, h5, h6⟩ := H2.upd 0 rfl
  have hql := flat_lenO h3
  subst hq
  refine stOwnR d t 0 e o.fr.sz A l.length c _ ad (i' * o.fr.sz + j) v ho ht hv ho1 hA (by rw [List.length_append, List.length_append, hql, h1]; omega) ?_
  intro w1 hown hkp hz
  have e1 : (q1.flatten ++ (cs ++ q2.flatten)).set (i' * o.fr.sz + j) v = q1.flatten ++ (cs.set j v ++ q2.flatten) := by
    rw [List.set_append_right _ _ (by rw [hql, h1]; omega), hql, h1, show i' * o.fr.sz + j - i' * o.fr.sz = j by omega, List.set_append_left _ _ hj]
  rw [e1] at hown
  have H3 := h6 w1 (rawI e o.fr.sz A c l.length (q1.flatten ++ (cs.set j v ++ q2.flatten))) F (hkp.mono (fun k _ hk => (hF k).2 hk.symm)) ⟨hown, hF⟩ (fun k hk => .inl hk)
  refine hk w1 (St.exi (q1, q2) (St.big _ (St.fac0 ⟨h1, h2, h3, by rw [List.length_set]; exact h4⟩ H3)))
theorem stHole (d : Option Nat) (t : TypeId) (n' i' j : Nat) (A : Option Addr) (c : Nat) (l : List α) (e : TypeId) (cs : List Value) (v : Value) (ad : Addr) (H : St w0 F0 m0 m σ w) (hn : σ[n']? = some (holeO o e A c l i' cs)) (hA : A = some ad)
    (ho : fetch B n p i κ = some (d, uS (Instr.storeAt t (.pointer (some ((ad.add (i' * o.fr.sz)).add j))) v))) (ht : oneB P t = true) (hv : v.oneCell' = true) (hj : j < cs.length)
    (hk : ∀ w1, St w0 F0 m0 m (holeO o e A c l i' (cs.set j v) :: σ.eraseIdx n') w1 → Z (putk d undef κ) w1) : Step P B n p i κ w Z := by
  rw [add_add] at ho
  exact stHoleS d t n' i' j (i' * o.fr.sz + j) A c l e cs v ad H hn hA ho rfl ht hv hj hk
theorem St.nilO (H : St w0 F0 m0 m σ w) {α : Type} (o : ORep α) (t : TypeId) : St w0 F0 m0 m (rowO o t none 0 [] :: σ) w :=
  St.exi [] (St.big _ (St.fac0 rfl (H.add (Kp.refl _ _) (G := fun _ => False) ⟨World.ownsRow_nil _ _ _ _, fun k => ⟨False.elim, fun e => by cases e⟩⟩ (fun _ e => e.elim))))
/-- append(v, x), v and x owned. -/
theorem appOS (d : Option Nat) (t e by_ : Nat) (z : Value) (ty : TypeId) (A X : Option Addr) (c m' c' : Nat) (l y : List α) (x : α) (cs : List Value) {lo hi : Nat} (H : St w0 F0 m0 m (o.it cs x :: rowO o e A c l :: σ) w) (he : elB P t e o.fr.sz by_ z) (hz : z.cells.size = o.fr.sz) (hsz : 0 < o.fr.sz)
    (ho : fetch B n p i κ = some (d, vS (Builtin.append_ #[t, t] ty #[.slice A l.length c, .slice X m' c']))) (hX : Cs lo hi w X cs) (hm : 1 = m') (hy : app l [x] = some y) (hby : 0 < by_) (hby2 : by_ ≤ 1024)
    (hk : ∀ A' c1 w1, St w0 F0 m0 m (rowO o e A' c1 y :: σ) w1 → Z (putk d (.slice A' y.length c1) κ) w1) : Step P B n p i κ w Z := by
  obtain ⟨hb, rfl⟩ := app_some hy
  obtain ⟨css, H1⟩ := (H.perm (List.Perm.swap _ _ _)).unex
  obtain ⟨hl, H2⟩ := H1.unbig.unfac0
  have H2 : St w0 F0 m0 m (rawI e o.fr.sz A c l.length css.flatten :: (els o css l ++ (o.it cs x :: σ))) w := H2
  have hit : cs.length = o.fr.sz ∧ ∀ u ∈ cs, u.oneCell' = true := by
    obtain ⟨F, ⟨F1, F2, h1, _⟩, _⟩ := H.sep
    exact ⟨o.len h1, o.one h1⟩
  obtain ⟨F, ⟨ho1, hF⟩, h5, h6⟩ := H2.upd 0 rfl
  subst hm
  have hlx : (l ++ [x]).length = l.length + 1 := by simp
  refine appR d t e o.fr.sz by_ z ty 0 A X l.length c 1 c' css.flatten cs he hz hsz ho ho1 hX (by rw [hit.1]; omega) hit.2 ?_ hby (Nat.zero_le _) ?_
  · rw [List.length_singleton] at hb
    exact Nat.le_trans (Nat.mul_le_mul hb hby2) (by decide)
  · intro A' c1 w1 hown hkp hblk hc1 hz1
    have H3 := h6 w1 (rawI e o.fr.sz A' c1 (l.length + 1) (css.flatten ++ cs)) (fun k => (Value.slice A' (l.length + 1) c1).ownBlock = some k) (hkp.mono (fun k _ e => (hF k).2 e.symm)) ⟨hown, fun _ => Iff.rfl⟩ (fun k hk => (hblk).elim (fun e => .inl ((hF k).2 (by rw [← e]; exact hk))) (fun e => .inr (by rw [e] at hk; cases hk; exact Nat.le_refl _)))
    rw [← hlx]
    refine hk A' c1 w1 (St.exi (css ++ [cs]) (St.big _ (St.fac0 (by simp; omega) ?_)))
    have e3 : els o (css ++ [cs]) (l ++ [x]) = els o css l ++ [o.it cs x] := by rw [els_app o hl]; rfl
    rw [e3, hlx, show (css ++ [cs]).flatten = css.flatten ++ cs by simp]
    have H3 : St w0 F0 m0 m (rawI e o.fr.sz A' c1 (l.length + 1) (css.flatten ++ cs) :: (els o css l ++ (o.it cs x :: σ))) w1 := H3
    refine H3.perm (List.Perm.cons _ (?_ : List.Perm _ ((els o css l ++ [o.it cs x]) ++ σ)))
    rw [List.append_assoc]
    exact List.Perm.refl _
/-! fixed -/
theorem rowI_fix {α : Type} {r : Rep α} {t : TypeId} {A : Option Addr} {c : Nat} {l : List α} {F : Nat → Prop} {m1 : Mem} (h : (rowI r t A c l).P m w F) (hs : Sub m m1) (hm : ∀ k, F k → m1 k = w.heap[k]?) : SlI r m1 A c l := by
  obtain ⟨⟨xs, h1, ho⟩, hF⟩ := h
  have hc := own_cap ho
  refine ⟨hc.1, hc.2, xs, h1.mono hs, ?_⟩
  intro j u hj
  obtain ⟨ad, e, _, _, hcell⟩ := Cs.of_own ho j u hj
  refine ⟨ad, e, ?_⟩
  subst e
  rcases ho.2 with ⟨hv, h0⟩ | ⟨g, cap, cur, hv, hb, hg, _⟩
  · cases hv
  · cases hv
    have := hm g ((hF g).2 rfl)
    rw [hg] at this
    have hcell : w.cell? ((⟨g, 0, none⟩ : Addr).add j) = some u := hcell
    rw [Addr.add_lit] at hcell ⊢
    simp only [World.cell?, hg] at hcell
    simp only [mc, this]
    exact hcell
theorem rowO_fix {α : Type} {o : ORep α} {t : TypeId} {A : Option Addr} {c : Nat} {l : List α} {F : Nat → Prop} {m1 : Mem} (h : (rowO o t A c l).P m w F) (hs : Sub m m1) (hm : ∀ k, F k → m1 k = w.heap[k]?) : SlI o.fr m1 A c l := by
  obtain ⟨css, F1, F2, ⟨hl, _⟩, ⟨F3, F4, ⟨ho, hF⟩, he, _, h4⟩, _, h6⟩ := h
  have hm4 : ∀ k, F4 k → m1 k = w.heap[k]? := fun k hk => hm k ((h6 k).2 (.inr ((h4 k).2 (.inr hk))))
  have hm3 : ∀ k, F3 k → m1 k = w.heap[k]? := fun k hk => hm k ((h6 k).2 (.inr ((h4 k).2 (.inl hk))))
  have hc := own_cap ho
  have rows : ∀ (css : List (List Value)) (l : List α) (G : Nat → Prop), css.length = l.length → Sep m w (els o css l) G → (∀ k, G k → m1 k = w.heap[k]?) → Rows o.fr m1 css.flatten l := by
    intro css
    induction css with
    | nil =>
      intro l G h _ _
      cases l with
      | nil => rfl
      | cons => simp at h
    | cons cs css ih =>
      intro l G h hsep hG
      cases l with
      | nil => simp at h
      | cons x l =>
        obtain ⟨G1, G2, g1, g2, _, g4⟩ := hsep
        exact ⟨cs, css.flatten, by simp, o.fix g1 hs (fun k hk => hG k ((g4 k).2 (.inl hk))), ih l G2 (by simpa using h) g2 (fun k hk => hG k ((g4 k).2 (.inr hk)))⟩
  refine ⟨hc.1, hc.2, _, rows css l F4 hl he hm4, ?_⟩
  intro j u hj
  obtain ⟨ad, e, _, _, hcell⟩ := Cs.of_own ho j u hj
  refine ⟨ad, e, ?_⟩
  subst e
  rcases ho.2 with ⟨hv, h0⟩ | ⟨g, cap, cur, hv, hb, hg, _⟩
  · cases hv
  · cases hv
    have := hm3 g ((hF g).2 rfl)
    rw [hg] at this
    have hcell : w.cell? ((⟨g, 0, none⟩ : Addr).add j) = some u := hcell
    rw [Addr.add_lit] at hcell ⊢
    simp only [World.cell?, hg] at hcell
    simp only [mc, this]
    exact hcell
theorem St.fixO (H : St w0 F0 m0 m σ w) {α : Type} {o : ORep α} (n : Nat) {A : Option Addr} {c : Nat} {l : List α} {t : TypeId} (hn : σ[n]? = some (rowO o t A c l)) : ∃ m1, Sub m m1 ∧ SlI o.fr m1 A c l ∧ St w0 F0 m0 m1 (σ.eraseIdx n) w := by
  obtain ⟨F, m1, h1, h2, h3, h4⟩ := (H.pull n hn).fix0
  exact ⟨m1, h2, rowO_fix h1 h2 h3, h4⟩
theorem St.rowCapO (H : St w0 F0 m0 m σ w) {α : Type} {o : ORep α} (n : Nat) {A : Option Addr} {c : Nat} {l : List α} {t : TypeId} (hn : σ[n]? = some (rowO o t A c l)) : l.length ≤ c ∧ c ≤ maxLen := by
  obtain ⟨F, ⟨css, F1, F2, _, ⟨F3, F4, ⟨ho, _⟩, _⟩, _⟩, _⟩ := H.upd n hn
  exact own_cap ho
end
/-- An owning representation out of letters, facts, items. -/
def oOf {α β : Type} (fr : Rep α) (its : β → α → List Item) (cells : β → α → List Value) (facts : α → Prop)
    (len : ∀ b x, (cells b x).length = fr.sz) (one : ∀ b x, ∀ u ∈ cells b x, u.oneCell' = true)
    (fix : ∀ (b : β) (x : α) (m m1 : Mem) (w : World) (F : Nat → Prop), facts x → Sep m w (its b x) F → Sub m m1 → (∀ k, F k → m1 k = w.heap[k]?) → fr.im m1 (cells b x) x) : ORep α where
  fr := fr
  it cs x := exI fun b : β => bigI (facI (cs = cells b x ∧ facts x) :: its b x)
  len := fun ⟨b, F1, F2, ⟨⟨h, _⟩, _⟩, _⟩ => by rw [h]; exact len b _
  one := fun ⟨b, F1, F2, ⟨⟨h, _⟩, _⟩, _⟩ => by rw [h]; exact one b _
  fix := fun ⟨b, F1, F2, ⟨⟨h, hf⟩, _⟩, hs, _, h4⟩ hsub hm => by rw [h]; exact fix b _ _ _ _ F2 hf hs hsub (fun k hk => hm k ((h4 k).2 (.inr hk)))
theorem St.ofO {α β : Type} {fr : Rep α} {its : β → α → List Item} {cells : β → α → List Value} {facts : α → Prop} {len one fix} {w0 : World} {F0 : Nat → Prop} {m0 m : Mem} {σ : List Item} {w : World} {cs : List Value} {x : α}
    (H : St w0 F0 m0 m ((oOf fr its cells facts len one fix).it cs x :: σ) w) : ∃ b, cs = cells b x ∧ facts x ∧ St w0 F0 m0 m (its b x ++ σ) w := by
  obtain ⟨b, H1⟩ := H.unex
  obtain ⟨⟨h1, h2⟩, H2⟩ := H1.unbig.unfac0
  exact ⟨b, h1, h2, H2⟩
theorem St.toO {α β : Type} {fr : Rep α} {its : β → α → List Item} {cells : β → α → List Value} {facts : α → Prop} {len one fix} {w0 : World} {F0 : Nat → Prop} {m0 m : Mem} {σ : List Item} {w : World} {x : α} (b : β) (hf : facts x)
    (H : St w0 F0 m0 m (its b x ++ σ) w) : St w0 F0 m0 m ((oOf fr its cells facts len one fix).it (cells b x) x :: σ) w :=
  St.exi b (St.big _ (St.fac0 ⟨rfl, hf⟩ H))
end Go.Proofs.YtbldeodchhfjfaaGreatDoor.K
