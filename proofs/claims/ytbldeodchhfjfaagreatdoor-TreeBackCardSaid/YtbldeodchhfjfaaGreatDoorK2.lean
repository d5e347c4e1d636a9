/- The walk's own machine, part 2: what the world keeps, cells that are read, rows that are owned; the operations that need the world. -/
import Derived.Test.YtbldeodchhfjfaaGreatDoorK1
import Derived.Maps.AppendAt
import Derived.Laws.BytesArg
import Derived.Lib.ConvBytes
import Derived.Lib.AppendStr
import Derived.OwnWalk
import Derived.Laws.BitsLemmas
set_option linter.unusedVariables false
set_option linter.unusedSimpArgs false
set_option linter.unusedSectionVars false
namespace Go.Proofs.YtbldeodchhfjfaaGreatDoor.K
open Go Go.RowKit

/-! ### Frames -/
/-! ### Draws are counted up -/
theorem freeze_drawn (w : World) (a : Addr) (n : Nat) : (w.freeze a n).drawn = w.drawn := by
  unfold World.freeze
  split <;> rfl
theorem bytesWorld_drawn (w : World) (e : TypeId) (s : ByteArray) : w.drawn ≤ (Lib.bytesWorld w e s).drawn := by
  unfold Lib.bytesWorld
  rw [freeze_drawn]
  exact Nat.le_succ _
theorem exc_bind {ε α β : Type} {x : Except ε α} {f : α → Except ε β} {y : β} (h : (x >>= f) = .ok y) : ∃ a, x = .ok a ∧ f a = .ok y := by
  cases x with
  | error e => cases h
  | ok a => exact ⟨a, rfl, h⟩
theorem viewStore_drawn {p : Program} {w w' : World} {at_ k : Addr} {u : TypeId} {v : Value} {b : Bool} {l : List Addr} (h : w.viewStore p at_ u k v b = .ok (w', l)) : w'.drawn = w.drawn := by
  unfold World.viewStore at h
  simp only [bind, Except.bind, pure, Except.pure] at h
  repeat' split at h
  all_goals first | (cases h; rfl) | (cases h) | skip
theorem ask_drawn {α : Type} : ∀ (a : Ask α) (w : World), w.drawn ≤ (w.ask a).2.drawn
  | .done a, w => Nat.le_refl _
  | .ask what range k, w => by
    unfold World.ask
    simp only
    split
    · exact ask_drawn (k 0) w
    · exact Nat.le_trans (Nat.le_succ _) (ask_drawn (k _) { w with drawn := w.drawn + 1 })
theorem run_drawn {α : Type} {p : Program} : ∀ (s : Sem α) (w : World) {a : α} {w' : World}, s.run p w = .ok a w' → w.drawn ≤ w'.drawn
  | .pure a, w, _, _, h => by cases h; exact Nat.le_refl _
  | .load m a k, w, _, _, h => by
    unfold Sem.run at h
    split at h
    · exact run_drawn (k _) w h
    · split at h
      · exact run_drawn (k _) w h
      · cases h
  | .store m a v k, w, x, w1, h => by
    have key : (match w.cell? a with
      | some _ => if w.frozen? a then Result.halt (.unsupported (.unsafePointer "a write to bytes that a string shares")) w else k.run p (w.setCell a v)
      | none => match w.farStore p a v (m == Mode.atomic) with
        | .ok (w, _) => k.run p w
        | .error h => .halt h w) = .ok x w1 → w.drawn ≤ w1.drawn := by
      intro h
      split at h
      · split at h
        · cases h
        · exact run_drawn k (w.setCell a v) h
      · split at h
        · rename_i w2 l hf
          have h2 := run_drawn k w2 h
          unfold World.farStore at hf
          split at hf
          · split at hf
            · rename_i r hr
              cases hf
              rw [← viewStore_drawn hr]; exact h2
            · cases hf
          · cases hf
        · cases h
    cases v <;> first | exact key h | (cases h)
  | .new o k, w, _, _, h => run_drawn (k _) { w with heap := w.heap.push o } h
  | .shape r k, w, _, _, h => run_drawn (k _) w h
  | .freeze a n k, w, _, _, h => by
    have := run_drawn k (w.freeze a n) h
    unfold World.freeze at this
    split at this <;> exact this
  | .frozen a k, w, _, _, h => run_drawn (k _) w h
  | .getObj r k, w, _, _, h => by
    unfold Sem.run at h
    split at h
    · cases h
    · exact run_drawn (k _) w h
    · cases h
  | .setObj r o k, w, _, _, h => by
    unfold Sem.run at h
    split at h
    · cases h
    · exact run_drawn k { w with heap := w.heap.setIfInBounds r o } h
    · cases h
  | .choose q k, w, _, _, h => by
    unfold Sem.run at h
    split at h
    · exact run_drawn (k _) w h
    · exact Nat.le_trans (Nat.le_succ _) (run_drawn (k _) { w with drawn := w.drawn + 1 } h)
  | .sys c k, w, _, _, h => by
    have h1 := run_drawn (k (w.sys c).1) (w.sys c).2 h
    refine Nat.le_trans ?_ h1
    unfold World.sys
    have h2 := ask_drawn (Kernel.perform c w.os) w
    split
    · exact Nat.le_refl _
    · rename_i hh
      rw [hh] at h2
      exact h2
  | .program k, w, _, _, h => run_drawn (k p) w h
  | .mark _ k, w, _, _, h => run_drawn k w h
  | .halt h, w, _, _, hh => by cases hh
/-- What was there stays, but for the blocks of S. -/
structure Kp (S : Nat → Prop) (w w' : World) : Prop where
  os : w'.os = w.os
  tape : w'.tape = w.tape
  output : w'.output = w.output
  size : w.heap.size ≤ w'.heap.size
  block : ∀ k, k < w.heap.size → ¬ S k → w'.heap[k]? = w.heap[k]?
  drawn : w.drawn ≤ w'.drawn

/-- Nothing that was there has turned. -/
abbrev Ex (w w' : World) : Prop := Kp (fun _ => False) w w'

theorem Kp.refl (S : Nat → Prop) (w : World) : Kp S w w := ⟨rfl, rfl, rfl, Nat.le_refl _, fun _ _ _ => rfl, Nat.le_refl _⟩
theorem Kp.trans {S S' T : Nat → Prop} {a b c : World} (h : Kp S a b) (h' : Kp S' b c) (h1 : ∀ k, k < a.heap.size → S k → T k) (h2 : ∀ k, k < a.heap.size → S' k → T k) : Kp T a c :=
  ⟨h'.os.trans h.os, h'.tape.trans h.tape, h'.output.trans h.output, Nat.le_trans h.size h'.size, fun k hk hT =>
    (h'.block k (Nat.lt_of_lt_of_le hk h.size) (fun hs => hT (h2 k hk hs))).trans (h.block k hk (fun hs => hT (h1 k hk hs))), Nat.le_trans h.drawn h'.drawn⟩
theorem Kp.mono {S T : Nat → Prop} {a b : World} (h : Kp S a b) (h1 : ∀ k, k < a.heap.size → S k → T k) : Kp T a b := ⟨h.os, h.tape, h.output, h.size, fun k hk hT => h.block k hk (fun hs => hT (h1 k hk hs)), h.drawn⟩
theorem Kp.ex {S : Nat → Prop} {a b c : World} (h : Kp S a b) (h' : Ex b c) : Kp S a c := h.trans h' (fun _ _ h => h) (fun _ _ h => h.elim)
/-- A step that writes what is new, or in S. -/
theorem Kp.step {S S' : Nat → Prop} {a b c : World} (h : Kp S a b) (h' : Kp S' b c) (h1 : ∀ k, S' k → k < a.heap.size → S k) : Kp S a c := h.trans h' (fun _ _ h => h) (fun k hk hs => h1 k hs hk)
theorem Kp.drew {S : Nat → Prop} {a b : World} (h : Kp S a b) : Kp S a { b with drawn := b.drawn + 1 } := ⟨h.os, h.tape, h.output, h.size, h.block, Nat.le_trans h.drawn (Nat.le_succ _)⟩
theorem Kp.of_gb {w w' : World} {row : Option Nat} (h : w.grownBy w' row) (hd : w.drawn ≤ w'.drawn) : Kp (fun k => some k = row) w w' := ⟨h.os, h.tape, h.output, h.size, fun k hk hn => h.block k hk hn, hd⟩
theorem Kp.gb {w w' : World} {g : Nat} (h : Kp (fun k => k = g) w w') : w.grownBy w' (some g) := ⟨h.os, h.tape, h.output, h.size, fun k hk hn => h.block k hk (fun e => hn (by rw [e]))⟩
theorem Kp.gbx {w w' : World} (h : Ex w w') (row : Option Nat) : w.grownBy w' row := ⟨h.os, h.tape, h.output, h.size, fun k hk _ => h.block k hk (fun e => e)⟩
theorem Kp.below {w w' : World} (h : Ex w w') : Below w.heap.size w w' := ⟨h.os, h.tape, h.output, h.size, fun k hk => h.block k hk (fun e => e)⟩
theorem Kp.of_below {w w' : World} (h : Below w.heap.size w w') (hd : w.drawn ≤ w'.drawn) : Ex w w' := ⟨h.os, h.tape, h.output, h.size, fun k hk _ => h.block k hk, hd⟩
theorem Ex.alloc (w : World) (o : Obj) : Ex w (w.alloc o) := ⟨rfl, rfl, rfl, by simp, fun k hk _ => by show (w.heap.push o)[k]? = _; rw [Array.getElem?_push, if_neg (by omega)], Nat.le_refl _⟩
theorem Kp.blk {S : Nat → Prop} {w w' : World} (h : Kp S w w') {g : Nat} {o : Obj} (hg : w.heap[g]? = some o) (hs : ¬ S g) : w'.heap[g]? = some o := (h.block g (Array.getElem?_eq_some_iff.1 hg).1 hs).trans hg
theorem Kp.cell {S : Nat → Prop} {w w' : World} (h : Kp S w w') {a : Addr} {v : Value} (hc : w.cell? a = some v) (hs : ¬ S a.block) : w'.cell? a = some v :=
  (World.cell?_of_block (h.block a.block (World.block_lt_of_cell? w a hc) hs)).trans hc

theorem blk_lt {w : World} {g : Nat} {o : Obj} (h : w.heap[g]? = some o) : g < w.heap.size := (Array.getElem?_eq_some_iff.1 h).1
theorem blk_cell {w : World} {g i : Nat} {c : Array Value} {t : TypeId} {fr : Nat × Nat} {v : Value} (h : w.heap[g]? = some (.cells c t fr)) (hv : c[i]? = some v) : w.cell? ⟨g, i, none⟩ = some v := by
  simp [World.cell?, h, hv]

/-! ### Cells that are read from an address on; they lie in blocks from lo to below hi -/
def Cs (lo hi : Nat) (w : World) (A : Option Addr) (cs : List Value) : Prop := ∀ j u, cs[j]? = some u → ∃ ad, A = some ad ∧ lo ≤ ad.block ∧ ad.block < hi ∧ w.cell? (ad.add j) = some u

theorem add_block (ad : Addr) (j : Nat) : (ad.add j).block = ad.block := by unfold Addr.add; split <;> rfl
theorem add_add (ad : Addr) (i j : Nat) : (ad.add i).add j = ad.add (i + j) := by
  unfold Addr.add
  by_cases h1 : i = 0 <;> by_cases h2 : j = 0 <;> simp [h1, h2, Nat.add_assoc]
section
variable {lo hi : Nat} {w w' : World} {A : Option Addr} {cs : List Value}
theorem Cs.nil (lo hi : Nat) (w : World) (A : Option Addr) : Cs lo hi w A [] := fun j u h => by simp at h
theorem Cs.at_ (h : Cs lo hi w A cs) {j : Nat} {u : Value} (hj : cs[j]? = some u) : ∃ ad, A = some ad ∧ w.cell? (ad.add j) = some u :=
  let ⟨ad, h1, _, _, h2⟩ := h j u hj
  ⟨ad, h1, h2⟩
theorem Cs.at2 (h : Cs lo hi w A cs) {j : Nat} {u : Value} (hj : cs[j]? = some u) : ∃ ad, A = some ad ∧ lo ≤ ad.block ∧ ad.block < hi ∧ w.cell? (ad.add j) = some u := h j u hj
theorem add0 {w : World} {a : Addr} {v : Value} (h : w.cell? (a.add 0) = some v) : w.cell? a = some v := by simpa [Addr.add] using h
theorem Cs.mono (h : Cs lo hi w A cs) {lo' hi' : Nat} (h1 : lo' ≤ lo) (h2 : hi ≤ hi') : Cs lo' hi' w A cs := fun j u hj =>
  let ⟨ad, a1, a2, a3, a4⟩ := h j u hj
  ⟨ad, a1, Nat.le_trans h1 a2, Nat.lt_of_lt_of_le a3 h2, a4⟩
theorem Cs.old (h : Cs lo hi w A cs) : Cs 0 w.heap.size w A cs := fun j u hj =>
  let ⟨ad, a1, _, _, a4⟩ := h j u hj
  ⟨ad, a1, Nat.zero_le _, by have := World.block_lt_of_cell? w _ a4; rwa [add_block] at this, a4⟩
theorem Cs.kp {S : Nat → Prop} (h : Cs lo hi w A cs) (hk : Kp S w w') (hs : ∀ k, S k → k < lo ∨ hi ≤ k) : Cs lo hi w' A cs := fun j u hj => by
  obtain ⟨ad, e, h1, h2, hc⟩ := h j u hj
  refine ⟨ad, e, h1, h2, hk.cell hc ?_⟩
  rw [add_block]
  intro hS
  rcases hs _ hS with h3 | h3 <;> omega
theorem Cs.ex (h : Cs lo hi w A cs) (hk : Ex w w') : Cs lo hi w' A cs := h.kp hk (fun _ e => e.elim)
theorem Cs.take (h : Cs lo hi w A cs) (n : Nat) : Cs lo hi w A (cs.take n) := fun j u hj => h j u (by
  rw [List.getElem?_take] at hj
  split at hj
  · exact hj
  · cases hj)
theorem Cs.drop (h : Cs lo hi w A cs) (i : Nat) : Cs lo hi w (A.map (·.add i)) (cs.drop i) := fun j u hj => by
  rw [List.getElem?_drop] at hj
  obtain ⟨ad, e, h1, h2, hc⟩ := h _ u hj
  exact ⟨ad.add i, by rw [e]; rfl, by rw [add_block]; exact h1, by rw [add_block]; exact h2, by rw [add_add]; exact hc⟩
theorem Cs.of_blk {g : Nat} {c : Array Value} {t : TypeId} {fr : Nat × Nat} (h : w.heap[g]? = some (.cells c t fr)) : Cs g (g + 1) w (some ⟨g, 0, none⟩) c.toList := fun j u hj => by
  refine ⟨_, rfl, Nat.le_refl _, Nat.lt_succ_self _, ?_⟩
  rw [Addr.add_lit, Nat.zero_add]
  exact blk_cell h (by simpa using hj)
theorem Cs.of_own {base n size : Nat} {e : TypeId} {c : Nat} {xs : List Value} (h : w.ownsRow base e size (.slice A n c) n xs) : Cs base w.heap.size w A xs := by
  intro j u hj
  rcases h.2 with ⟨hv, h0⟩ | ⟨g, cap, cur, hv, hb, hg, _, _, _, ht⟩
  · have : xs = [] := List.eq_nil_of_length_eq_zero (by rw [h.1, h0]; simp)
    subst this
    simp at hj
  · cases hv
    refine ⟨_, rfl, hb, blk_lt hg, ?_⟩
    rw [Addr.add_lit, Nat.zero_add]
    refine blk_cell hg ?_
    rw [← ht, List.getElem?_take] at hj
    split at hj
    · simpa using hj
    · cases hj
end
theorem own_of_blk {w : World} {g base n sz : Nat} {e : TypeId} {c : Array Value} (hg : w.heap[g]? = some (.cells c e (0, 0))) (hb : base ≤ g) (hn : n ≤ maxLen) (hc : c.size = n * sz) : w.ownsRow base e sz (.slice (some ⟨g, 0, none⟩) n n) n c.toList :=
  ⟨by rw [Array.length_toList]; exact hc, .inr ⟨g, n, c, rfl, hb, hg, Nat.le_refl _, hn, hc, by rw [← hc, ← Array.length_toList, List.take_length]⟩⟩
theorem own_shape {w : World} {base n size : Nat} {e : TypeId} {v : Value} {xs : List Value} (h : w.ownsRow base e size v n xs) : ∃ A c, v = .slice A n c ∧ n ≤ c ∧ c ≤ maxLen := by
  rcases h.2 with ⟨rfl, rfl⟩ | ⟨g, cap, cur, rfl, _, _, h1, h2, _⟩
  · exact ⟨none, 0, rfl, Nat.le_refl _, by simp [maxLen]⟩
  · exact ⟨_, cap, rfl, h1, h2⟩
theorem own_cap {w : World} {base n size : Nat} {e : TypeId} {A : Option Addr} {c : Nat} {xs : List Value} (h : w.ownsRow base e size (.slice A n c) n xs) : n ≤ c ∧ c ≤ maxLen := by
  obtain ⟨A', c', e1, h1, h2⟩ := own_shape h
  cases e1
  exact ⟨h1, h2⟩
theorem own_kp {S : Nat → Prop} {w w' : World} {base n size : Nat} {e : TypeId} {v : Value} {xs : List Value} (h : w.ownsRow base e size v n xs) (hk : Kp S w w') (hs : ∀ k, v.ownBlock = some k → ¬ S k) : w'.ownsRow base e size v n xs := by
  refine ⟨h.1, ?_⟩
  rcases h.2 with hn | ⟨g, cap, cur, rfl, hb, hg, r⟩
  · exact .inl hn
  · exact .inr ⟨g, cap, cur, rfl, hb, hk.blk hg (hs g rfl), r⟩
theorem own_ex {w w' : World} {base n size : Nat} {e : TypeId} {v : Value} {xs : List Value} (h : w.ownsRow base e size v n xs) (hk : Ex w w') : w'.ownsRow base e size v n xs := own_kp h hk (fun _ _ e => e)
theorem own_base' {w : World} {base base' n size : Nat} {e : TypeId} {v : Value} {xs : List Value} (h : w.ownsRow base e size v n xs) (hb : base' ≤ base) : w.ownsRow base' e size v n xs := by
  refine ⟨h.1, ?_⟩
  rcases h.2 with hn | ⟨g, cap, cur, rfl, hg, r⟩
  · exact .inl hn
  · exact .inr ⟨g, cap, cur, rfl, Nat.le_trans hb hg, r⟩

/-- The cut's cells. -/
theorem Cs.cut {lo hi : Nat} {w : World} {A : Option Addr} {cs : List Value} {sz : Nat} (hc : Cs lo hi w A cs) (l cap : Nat) (hl : cs.length ≤ cap * sz) : Cs lo hi w (if cap = l then A else A.map (·.add (l * sz))) (cs.drop (l * sz)) := by
  by_cases e : cap = l
  · subst e
    rw [if_pos rfl, List.drop_eq_nil_of_le hl]
    exact Cs.nil _ _ _ _
  · rw [if_neg e]
    exact hc.drop _

theorem blk_cells {w : World} {g off : Nat} {c : Array Value} {t : TypeId} {fr : Nat × Nat} {vs : List Value} (h : w.heap[g]? = some (.cells c t fr)) (hv : (c.toList.drop off).take vs.length = vs) : ∀ j v, vs[j]? = some v → w.cell? ((⟨g, off, none⟩ : Addr).add j) = some v := by
  intro j v hj
  rw [Addr.add_lit]
  refine blk_cell h ?_
  rw [← hv, List.getElem?_take] at hj
  split at hj
  · simpa using hj
  · cases hj
theorem own_lt {w : World} {base n size : Nat} {e : TypeId} {v : Value} {xs : List Value} (h : w.ownsRow base e size v n xs) : ∀ k, some k = v.ownBlock → k < w.heap.size := by
  intro k hk
  rcases h.2 with ⟨rfl, _⟩ | ⟨g, cap, cur, rfl, _, hg, _⟩
  · cases hk
  · simp only [Value.ownBlock, Option.some.injEq] at hk
    subst hk
    exact blk_lt hg
theorem own_ge {w : World} {base n size : Nat} {e : TypeId} {v : Value} {xs : List Value} (h : w.ownsRow base e size v n xs) {k : Nat} (hk : some k = v.ownBlock) : base ≤ k := by
  rcases h.2 with ⟨rfl, _⟩ | ⟨g, cap, cur, rfl, hb, _⟩
  · cases hk
  · simp only [Value.ownBlock, Option.some.injEq] at hk
    omega

/-- A row of one's own has become another (the same block, or a new one); nothing else has turned. -/
structure Grew (w : World) (v : Value) (w' : World) (v' : Value) : Prop where
  kp : Kp (fun k => some k = v.ownBlock) w w'
  at_ : ∀ k, v'.ownBlock = some k → v.ownBlock = some k ∨ w.heap.size ≤ k
theorem Grew.refl (w : World) (v : Value) : Grew w v w v := ⟨Kp.refl _ _, fun _ h => .inl h⟩
theorem Grew.trans {a b c : World} {u v x : Value} (h : Grew a u b v) (h' : Grew b v c x) : Grew a u c x :=
  ⟨h.kp.step h'.kp (fun k hk hlt => (h.at_ k hk.symm).elim (fun e => e.symm) (fun e => by omega)),
   fun k hk => by
    rcases h'.at_ k hk with e | e
    · exact h.at_ k e
    · exact .inr (Nat.le_trans h.kp.size e)⟩
theorem Grew.app {w w' : World} {v v' : Value} (h : Kp (fun k => some k = v.ownBlock) w w') (hb : v'.ownBlock = v.ownBlock ∨ v'.ownBlock = some w.heap.size) : Grew w v w' v' :=
  ⟨h, fun k hk => hb.elim (fun e => .inl (by rw [← e]; exact hk)) (fun e => .inr (by rw [e] at hk; cases hk; exact Nat.le_refl _))⟩
theorem Grew.ex {w w' w2 : World} {v v' : Value} (h : Grew w v w' v') (hx : Ex w' w2) : Grew w v w2 v' := ⟨h.kp.ex hx, h.at_⟩
/-- Nothing had been owned, or only what is new. -/
theorem Grew.toEx {w w' : World} {v v' : Value} (h : Grew w v w' v') (hn : v.ownBlock = none) : Ex w w' := h.kp.mono (fun k _ hk => by rw [hn] at hk; cases hk)

theorem own_blk {w : World} {base n sz c : Nat} {e : TypeId} {A : Option Addr} {xs : List Value} (h : w.ownsRow base e sz (.slice A n c) n xs) (hn : 0 < n) : ∃ g cur, A = some ⟨g, 0, none⟩ ∧ base ≤ g ∧ w.heap[g]? = some (.cells cur e (0, 0)) ∧ cur.size = c * sz ∧ cur.toList.take (n * sz) = xs ∧ n ≤ c ∧ c ≤ maxLen := by
  rcases h.2 with ⟨_, h0⟩ | ⟨g, cap, cur, hv, h1, h2, h3, h4, h5, h6⟩
  · omega
  · cases hv
    exact ⟨g, cur, rfl, h1, h2, h5, h6, h3, h4⟩
theorem in_step (cur : List Value) (m i : Nat) (mid : List Value) (x : Value) (hm : m ≤ cur.length) (hi : mid.length = i) : (cur.take m ++ mid ++ cur.drop (m + i)).take (m + i) ++ [x] ++ (cur.take m ++ mid ++ cur.drop (m + i)).drop (m + i + 1) = cur.take m ++ (mid ++ [x]) ++ cur.drop (m + (i + 1)) := by
  have h1 : (cur.take m ++ mid).length = m + i := by simp [hi, Nat.min_eq_left hm]
  rw [List.take_append_of_le_length (by omega), List.take_of_length_le (by omega), List.drop_append, List.drop_eq_nil_of_le (by omega), h1, List.nil_append, List.drop_drop]
  simp [Nat.add_assoc, Nat.add_sub_cancel_left, show m + (i + 1) - (m + i) = 1 by omega]

theorem set_in (cur mid : List Value) (len a m : Nat) (hm : mid.length = m) (h1 : a + m ≤ len) (h2 : len ≤ cur.length) : (cur.take a ++ mid ++ cur.drop (a + m)).toArray.toList.take len = (cur.take len).take a ++ mid ++ (cur.take len).drop (a + m) := by
  show (cur.take a ++ mid ++ cur.drop (a + m)).take len = _
  have h3 : (cur.take a ++ mid).length = a + m := by simp [hm]; omega
  rw [List.take_append, List.take_of_length_le (by omega), h3, List.take_take, Nat.min_eq_left (by omega), List.drop_take]

/-! ### Bytes -/
def bs (l : List UInt8) : List Value := l.map fun b => .int .u8 (b.toNat : Int)
@[simp] theorem bs_length (l : List UInt8) : (bs l).length = l.length := by simp [bs]
theorem bs_append (l m : List UInt8) : bs (l ++ m) = bs l ++ bs m := by simp [bs]
theorem bs_take (l : List UInt8) (n : Nat) : bs (l.take n) = (bs l).take n := by simp [bs, List.map_take]
theorem bs_drop (l : List UInt8) (n : Nat) : bs (l.drop n) = (bs l).drop n := by simp [bs, List.map_drop]
theorem bs_get (l : List UInt8) (j : Nat) (h : j < l.length) : (bs l)[j]? = some (.int .u8 ((l.getD j 0).toNat : Int)) := by
  simp [bs, List.getElem?_eq_getElem h, List.getD_eq_getElem?_getD]
theorem bs_set (l : List UInt8) (m : Nat) (b : UInt8) : (bs l).set m (.int .u8 (b.toNat : Int)) = bs (l.set m b) := by simp [bs, List.map_set]
theorem bs_one (l : List UInt8) : ∀ u ∈ bs l, u.oneCell' = true := by
  intro u hu
  simp only [bs, List.mem_map] at hu
  obtain ⟨_, _, rfl⟩ := hu
  rfl
theorem bs_inj {l m : List UInt8} (h : bs l = bs m) : l = m := by
  unfold bs at h
  induction l generalizing m with
  | nil => cases m with
    | nil => rfl
    | cons y m => simp at h
  | cons x l ih => cases m with
    | nil => simp at h
    | cons y m =>
      simp only [List.map_cons, List.cons.injEq, Value.int.injEq, true_and] at h
      have e : x = y := UInt8.toNat_inj.1 (by have := h.1; omega)
      rw [ih h.2, e]

/-! ### Strings -/
theorem toList_data (s : ByteArray) : s.toList = s.data.toList := by
  have key : ∀ (k i : Nat) (r : List UInt8), s.size - i = k → ByteArray.toList.loop s i r = r.reverse ++ s.data.toList.drop i := by
    intro k
    induction k with
    | zero =>
      intro i r h
      unfold ByteArray.toList.loop
      have hl : s.data.toList.length = s.size := by rw [Array.length_toList]; rfl
      rw [if_neg (by omega), List.drop_eq_nil_of_le (by omega), List.append_nil]
    | succ k ih =>
      intro i r h
      unfold ByteArray.toList.loop
      have hl : s.data.toList.length = s.size := by rw [Array.length_toList]; rfl
      have hi : i < s.data.toList.length := by omega
      rw [if_pos (by omega), ih (i + 1) _ (by omega), List.drop_eq_getElem_cons hi]
      have hg : s.get! i = s.data.toList[i] := by
        show s.data[i]! = _
        rw [getElem!_pos s.data i (by simpa using hi)]
        simp
      simp [hg]
  unfold ByteArray.toList
  simpa using key s.size 0 [] rfl
theorem streq {a b : ByteArray} (h : (a.toList == b.toList) = true) : a.data.toList = b.data.toList := by
  rw [← toList_data, ← toList_data]
  exact eq_of_beq h
theorem strne {a b : ByteArray} (h : (a.toList == b.toList) = false) : a.data.toList ≠ b.data.toList := by
  rw [← toList_data, ← toList_data]
  intro e
  rw [e] at h
  simp at h
theorem streq_t {a b : ByteArray} (h : a.data.toList = b.data.toList) : (a.toList == b.toList) = true := by
  rw [toList_data, toList_data, h]
  simp
theorem strne_f {a b : ByteArray} (h : a.data.toList ≠ b.data.toList) : (a.toList == b.toList) = false := by
  rw [toList_data, toList_data]
  exact beq_eq_false_iff_ne.2 h

/-! ### Numbers -/
theorem w64 {x : Int} (h : -9223372036854775808 ≤ x ∧ x ≤ 9223372036854775807) : IntKind.i64.wrap x = x := by
  rw [IntKind.wrap_i64]
  omega
theorem wu64 {x : Int} (h : 0 ≤ x ∧ x < 18446744073709551616) : IntKind.u64.wrap x = x := by
  simp [IntKind.wrap, IntKind.bits, IntKind.signed]
  omega
theorem wu32 {x : Int} (h : 0 ≤ x ∧ x < 4294967296) : IntKind.u32.wrap x = x := by
  simp [IntKind.wrap, IntKind.bits, IntKind.signed]
  omega
theorem wu8 {x : Int} (h : 0 ≤ x ∧ x < 256) : IntKind.u8.wrap x = x := by
  simp [IntKind.wrap, IntKind.bits, IntKind.signed]
  omega
theorem wu8m (x : Int) : IntKind.u8.wrap x = x % 256 := by simp [IntKind.wrap, IntKind.bits, IntKind.signed]
theorem wu64m (x : Int) : IntKind.u64.wrap x = x % 18446744073709551616 := by simp [IntKind.wrap, IntKind.bits, IntKind.signed]

theorem beq_bne {x y : Int} {v : Bool} (h : (x == y) = v) : (x != y) = !v := by rw [← h]; rfl
theorem bne_beq {x y : Int} {v : Bool} (h : (x != y) = v) : (x == y) = !v := by rw [← h, bne, Bool.not_not]
theorem bsplit (b : Bool) : b = true ∨ b = false := by cases b <;> simp

/-! ### Operations -/
def vS (s : Sem Value) : Sem Next := do pure (.value (← s))
def uS (s : Sem Unit) : Sem Next := do s; pure .skip
theorem vS_run {P : Program} {s : Sem Value} {w w' : World} {v : Value} (h : s.run P w = .ok v w') : (vS s).run P w = .ok (.value v) w' := by
  simp only [vS, Sem.run_bind, h, Result.andThen_ok, Sem.run_pure]
theorem uS_run {P : Program} {s : Sem Unit} {w w' : World} (h : s.run P w = .ok () w') : (uS s).run P w = .ok .skip w' := by
  simp only [uS, Sem.run_bind, h, Result.andThen_ok, Sem.run_pure]

def oneB (P : Program) (t : TypeId) : Bool := match P.underlying t with
  | some (.struct _) => false
  | some (.array _ _) => false
  | some _ => match P.info? t with
    | some i => Nat.beq i.size 1
    | none => false
  | none => false
def aggB (P : Program) (t : TypeId) (m : Nat) : Bool := match P.underlying t with
  | some (.struct _) => match P.info? t with
    | some i => Nat.beq i.size m
    | none => false
  | some (.array _ _) => match P.info? t with
    | some i => Nat.beq i.size m
    | none => false
  | _ => false
/-- A slice's type, its elements' type and their size. -/
def slB (P : Program) (t e sz : Nat) : Bool := match P.underlying t with
  | some (.slice e') => Nat.beq e' e && (match P.info? e with
    | some i => Nat.beq i.size sz
    | none => false)
  | _ => false

theorem isAgg_one {P : Program} {t : TypeId} (h : oneB P t = true) (w : World) : (isAgg t).run P w = .ok false w := by
  unfold oneB at h
  cases hu : P.underlying t with
  | none => simp [hu] at h
  | some d =>
    unfold isAgg
    rw [Sem.run_bind, run_underlying hu]
    cases d <;> first | rfl | simp [hu] at h
theorem sizeOf_one {P : Program} {t : TypeId} (h : oneB P t = true) (w : World) : (sizeOf t).run P w = .ok 1 w := by
  unfold oneB at h
  cases hu : P.underlying t with
  | none => simp [hu] at h
  | some d =>
    simp only [hu] at h
    cases hi : P.info? t with
    | none => cases d <;> simp [hi] at h
    | some i =>
      have : i.size = 1 := by
        cases d <;> simp [hi] at h <;> exact h
      simp [sizeOf, typeInfo, hi, this]
theorem agg_info {P : Program} {t : TypeId} {m : Nat} (h : aggB P t m = true) : ∃ d i, P.underlying t = some d ∧ P.info? t = some i ∧ i.size = m ∧ (match d with | .struct _ | .array _ _ => true | _ => false) = true := by
  unfold aggB at h
  cases hu : P.underlying t with
  | none => simp [hu] at h
  | some d =>
    cases d <;> simp only [hu, Bool.false_eq_true] at h
    all_goals
      cases hi : P.info? t with
      | none => simp [hi] at h
      | some i =>
        simp only [hi] at h
        exact ⟨_, i, rfl, rfl, Nat.eq_of_beq_eq_true h, rfl⟩
theorem sl_info {P : Program} {t e sz : Nat} (h : slB P t e sz = true) : P.underlying t = some (.slice e) ∧ ∃ i, P.info? e = some i ∧ i.size = sz := by
  unfold slB at h
  cases hu : P.underlying t with
  | none => simp [hu] at h
  | some d =>
    cases d <;> simp only [hu, Bool.false_eq_true] at h
    rename_i e'
    simp only [Bool.and_eq_true] at h
    obtain ⟨h1, h2⟩ := h
    have := Nat.eq_of_beq_eq_true h1
    subst this
    cases hi : P.info? e' with
    | none => rw [hi] at h2; cases h2
    | some i =>
      rw [hi] at h2
      exact ⟨rfl, i, rfl, Nat.eq_of_beq_eq_true h2⟩

section
variable {P : Program} {B : Code} {n : Cx} {p : List Nat} {i : Nat} {κ : Kn} {w : World} {d : Option Nat} {Z : Kn → World → Prop}

/-- Whatever the kernel can run whole. -/
def fetchRun (P : Program) (B : Code) (n : Cx) (p : List Nat) (i : Nat) (κ : Kn) (w : World) : Option (Option Nat × Result Next) :=
  match fetch B n p i κ with
  | some (d, s) => some (d, s.run P w)
  | none => none

theorem kerR (d : Option Nat) (v : Value) (w' : World) (h : fetchRun P B n p i κ w = some (d, .ok (.value v) w')) (hk : Z (putk d v κ) w') : Step P B n p i κ w Z := by
  unfold fetchRun at h
  cases hf : fetch B n p i κ with
  | none => simp [hf] at h
  | some x =>
    obtain ⟨d', s⟩ := x
    simp only [hf, Option.some.injEq, Prod.mk.injEq] at h
    obtain ⟨rfl, h2⟩ := h
    exact runR hf h2 hk

/-- One that lays a block: the world behind it is a letter. -/
theorem newR (d : Option Nat) (v : Nat → Value) (o : Obj) (h : fetchRun P B n p i κ w = some (d, .ok (.value (v w.heap.size)) (w.alloc o)))
    (hk : ∀ g w1, w.heap.size = g → Ex w w1 → w1.heap[g]? = some o → w1.heap.size = g + 1 → Z (putk d (v g) κ) w1) : Step P B n p i κ w Z :=
  kerR d _ _ h (hk _ _ rfl (Ex.alloc w o) (heap_alloc_new w o) (by simp))

theorem ld_run (t : TypeId) (a : Addr) (v : Value) (ht : oneB P t = true) (hc : w.cell? a = some v) : (vS (Instr.loadAt t (.pointer (some a)))).run P w = .ok (.value v) w := by
  refine vS_run ?_
  simp only [Instr.loadAt, Instr.sureAddr, Sem.run_bind, Sem.run_pure, Result.andThen_ok, loadVar, isAgg_one ht, run_load, hc, Bool.false_eq_true, if_false]
theorem ldR (d : Option Nat) (t : TypeId) (a : Addr) (v : Value) (ho : fetch B n p i κ = some (d, vS (Instr.loadAt t (.pointer (some a))))) (ht : oneB P t = true) (hc : w.cell? a = some v) (hk : Z (putk d v κ) w) : Step P B n p i κ w Z :=
  runR ho (ld_run t a v ht hc) hk

theorem ldAggR (d : Option Nat) (t : TypeId) (a : Addr) (vs : List Value) (ho : fetch B n p i κ = some (d, vS (Instr.loadAt t (.pointer (some a))))) (ht : aggB P t vs.length = true) (hc : ∀ j v, vs[j]? = some v → w.cell? (a.add j) = some v)
    (hk : Z (putk d (.agg vs.toArray) κ) w) : Step P B n p i κ w Z := by
  refine runR ho (vS_run ?_) hk
  obtain ⟨de, inf, h1, h2, h3, h4⟩ := agg_info ht
  have hl : (loadCells a vs.length).run P w = .ok vs.toArray w := run_loadCells_list w a vs hc
  have hagg : (isAgg t).run P w = .ok true w := by
    unfold isAgg
    rw [Sem.run_bind, run_underlying h1]
    cases de <;> first | rfl | cases h4
  have hs : (sizeOf t).run P w = .ok vs.length w := by simp [sizeOf, typeInfo, h2, h3]
  simp only [Instr.loadAt, Instr.sureAddr, Sem.run_bind, Sem.run_pure, Result.andThen_ok, loadVar, hagg, if_true, hs, hl]

/-- A store into a block that is known whole. -/
theorem stR (d : Option Nat) (t : TypeId) (g off : Nat) (v : Value) (c : Array Value) (e : TypeId) (ho : fetch B n p i κ = some (d, uS (Instr.storeAt t (.pointer (some ⟨g, off, none⟩)) v))) (ht : oneB P t = true) (hv : v.oneCell' = true)
    (hg : w.heap[g]? = some (.cells c e (0, 0))) (hoff : off < c.size)
    (hk : ∀ w1, Kp (fun k => k = g) w w1 → w1.heap[g]? = some (.cells (c.set! off v) e (0, 0)) → w1.heap.size = w.heap.size → Z (putk d undef κ) w1) : Step P B n p i κ w Z := by
  have hsz : v.cells.size = 1 := by cases v <;> first | rfl | cases hv
  have hcl : v.cells.toList = [v] := by cases v <;> first | rfl | cases hv
  have hcell : w.cell? ⟨g, off, none⟩ = some c[off] := blk_cell hg (by simp [hoff])
  have hfr : w.frozen? ⟨g, off, none⟩ = false := by simp [World.frozen?, hg]
  have hrun : (Instr.storeAt t (.pointer (some ⟨g, off, none⟩)) v).run P w = .ok () (w.setCell ⟨g, off, none⟩ v) := by
    simp only [Instr.storeAt, Instr.sureAddr, Sem.run_bind, Sem.run_pure, Result.andThen_ok, storeVar, sizeOf_one ht, hsz, ne_eq, not_true_eq_false, if_false, hcl, storeCells, Addr.add_zero', run_store P w _ v _ hv, hcell, hfr, Bool.false_eq_true]
  refine skipR ho (uS_run hrun) ?_
  refine hk _ ⟨rfl, rfl, rfl, by simp, fun k hk hne => ?_, Nat.le_refl _⟩ ?_ (by simp)
  · simp only [World.setCell, Array.getElem?_modify]
    rw [if_neg (fun e => hne e.symm)]
  · simp [World.setCell, Array.getElem?_modify, hg, Array.set!_eq_setIfInBounds]

/-- A store into a row of one's own. -/
theorem stOwnR (d : Option Nat) (t : TypeId) (base e sz : Nat) (A : Option Addr) (len cap : Nat) (xs : List Value) (ad : Addr) (m : Nat) (v : Value) (ho : fetch B n p i κ = some (d, uS (Instr.storeAt t (.pointer (some (ad.add m))) v))) (ht : oneB P t = true) (hv : v.oneCell' = true)
    (hown : w.ownsRow base e sz (.slice A len cap) len xs) (hA : A = some ad) (hm : m < xs.length)
    (hk : ∀ w1, w1.ownsRow base e sz (.slice A len cap) len (xs.set m v) → Kp (fun k => some k = (Value.slice A len cap).ownBlock) w w1 → w1.heap.size = w.heap.size → Z (putk d undef κ) w1) : Step P B n p i κ w Z := by
  have h0 : 0 < len := by
    rcases Nat.eq_zero_or_pos len with h | h
    · have := hown.1
      rw [h, Nat.zero_mul] at this
      omega
    · exact h
  obtain ⟨g, cur, hAg, hb, hg, hcs, htk, hnc, hcm⟩ := own_blk hown h0
  rw [hAg] at hA
  cases hA
  subst hAg
  have hlen : xs.length ≤ cur.size := by
    rw [hown.1, hcs]
    exact Nat.mul_le_mul_right _ hnc
  rw [Addr.add_lit, Nat.zero_add] at ho
  have hst := hown.stored m v
  refine stR d t g m v cur e ho ht hv hg (by omega) ?_
  intro w1 hx hg1 hz
  refine hk w1 ⟨by simpa using hown.1, .inr ⟨g, cap, _, rfl, hb, hg1, hnc, hcm, ?_, ?_⟩⟩ ?_ hz
  · simpa using hcs
  · rw [Array.set!_eq_setIfInBounds, Array.toList_setIfInBounds, List.take_set, htk]
  · exact hx.mono (fun k _ hk => by simp [Value.ownBlock, hk])

/-- x << y, x >> y -/
theorem shl_run (xk yk : IntKind) (x y : Int) (m : Nat) (t : TypeId) (hy : y = (m : Int)) (hm : m ≤ xk.bits) : (vS (Op.shift .shl xk x yk y)).run P w = .ok (.value (.int xk (xk.wrap (x * 2 ^ m)))) w := by
  subst hy
  refine vS_run ?_
  have : ¬ ((m : Int) < 0) := by omega
  simp only [Op.shift, this, if_false, Int.toNat_natCast, Nat.min_eq_left hm, Sem.run_pure]
theorem shlR (d : Option Nat) (xk yk : IntKind) (x y : Int) (m : Nat) (t : TypeId) (ho : fetch B n p i κ = some (d, vS (Op.shift .shl xk x yk y))) (hy : y = (m : Int)) (hm : m ≤ xk.bits) (hk : Z (putk d (.int xk (xk.wrap (x * 2 ^ m))) κ) w) : Step P B n p i κ w Z :=
  runR ho (shl_run xk yk x y m t hy hm) hk
theorem shr_run (xk yk : IntKind) (x y : Int) (m : Nat) (t : TypeId) (hy : y = (m : Int)) (hm : m ≤ xk.bits) : (vS (Op.shift .shr xk x yk y)).run P w = .ok (.value (.int xk (x / 2 ^ m))) w := by
  subst hy
  refine vS_run ?_
  have h : ¬ ((m : Int) < 0) := by omega
  have h2 : x.fdiv (2 ^ m) = x / 2 ^ m := Int.fdiv_eq_ediv_of_nonneg _ (by have : (0 : Int) < 2 ^ m := Int.pow_pos (by decide); omega)
  simp only [Op.shift, h, if_false, Int.toNat_natCast, Nat.min_eq_left hm, Sem.run_pure, h2]
theorem shrR (d : Option Nat) (xk yk : IntKind) (x y : Int) (m : Nat) (t : TypeId) (ho : fetch B n p i κ = some (d, vS (Op.shift .shr xk x yk y))) (hy : y = (m : Int)) (hm : m ≤ xk.bits) (hk : Z (putk d (.int xk (x / 2 ^ m)) κ) w) : Step P B n p i κ w Z :=
  runR ho (shr_run xk yk x y m t hy hm) hk

/-- A call of a function by its contract. -/
theorem callR (d : Option Nat) (f : FuncId) (args : Array Value) {Φ : Value → World → Prop} (hcall : ∀ args w, (callFunc f args).run P w = .ok (.enter f args) w)
    (hc : Calls P f args w fun e w' => ∃ v, e = .returned v ∧ Φ v w') (ho : fetch B n p i κ = some (d, callFunc f args))
    (hk : ∀ v w', Φ v w' → Z (putk d v κ) w') : Step P B n p i κ w Z :=
  enterR ho (hcall args w) hc hk

/-- &xs[i] -/
theorem idx_run (t e sz : Nat) (A : Option Addr) (a : Addr) (len cap : Nat) (ik : IntKind) (ix : Int) (m : Nat) (hA : A = some a) (ht : slB P t e sz = true)
    (h0 : 0 ≤ ix) (h1 : ix < len) (hm : ix.toNat * sz = m) : (vS (Instr.indexAt t (.slice A len cap) (.int ik ix))).run P w = .ok (.value (.pointer (some (a.add m)))) w := by
  subst hA
  obtain ⟨h2, inf, h3, h4⟩ := sl_info ht
  refine vS_run ?_
  have hs : (sizeOf e).run P w = .ok sz w := by simp [sizeOf, typeInfo, h3, h4]
  have hr : (Instr.indexAt t (.slice (some a) len cap) (.int ik ix)).run P w = if 0 ≤ ix ∧ ix < len then ((sizeOf e).run P w).andThen fun s w => .ok (.pointer (some (a.add (ix.toNat * s)))) w else (boundsPanic ik ix len .index).run P w := by
    simp [Instr.indexAt, run_underlying h2, asIntOf]
  rw [hr, if_pos ⟨h0, h1⟩, hs, Result.andThen_ok, hm]
theorem idxR (d : Option Nat) (t e sz : Nat) (A : Option Addr) (a : Addr) (len cap : Nat) (ik : IntKind) (ix : Int) (m : Nat) (hA : A = some a) (ho : fetch B n p i κ = some (d, vS (Instr.indexAt t (.slice A len cap) (.int ik ix)))) (ht : slB P t e sz = true)
    (h0 : 0 ≤ ix) (h1 : ix < len) (hm : ix.toNat * sz = m) (hk : Z (putk d (.pointer (some (a.add m))) κ) w) : Step P B n p i κ w Z :=
  runR ho (idx_run t e sz A a len cap ik ix m hA ht h0 h1 hm) hk

/-- s[i] -/
theorem str_run (t : TypeId) (l : List UInt8) (ik : IntKind) (ix : Int) (m : Nat) (ht : P.underlying t = some .string)
    (h0 : 0 ≤ ix) (h1 : ix < l.length) (hm : ix.toNat = m) : (vS (Instr.index t (.string ⟨l.toArray⟩) (.int ik ix))).run P w = .ok (.value (.int .u8 ((l.getD m 0).toNat : Int))) w := by
  subst hm
  refine vS_run ?_
  have hs : (⟨l.toArray⟩ : ByteArray).size = l.length := rfl
  have hl : ix.toNat < (⟨l.toArray⟩ : ByteArray).size := by omega
  have hg : (⟨l.toArray⟩ : ByteArray)[ix.toNat]? = some (l.getD ix.toNat 0) := by
    rw [getElem?_pos _ ix.toNat hl, List.getD_eq_getElem?_getD, List.getElem?_eq_getElem (by omega)]
    rfl
  simp only [Instr.index, asIntOf, Sem.run_bind, Sem.run_pure, Result.andThen_ok, run_underlying ht, h0, if_true, hg]
theorem strR (d : Option Nat) (t : TypeId) (l : List UInt8) (ik : IntKind) (ix : Int) (m : Nat) (ho : fetch B n p i κ = some (d, vS (Instr.index t (.string ⟨l.toArray⟩) (.int ik ix)))) (ht : P.underlying t = some .string)
    (h0 : 0 ≤ ix) (h1 : ix < l.length) (hm : ix.toNat = m) (hk : Z (putk d (.int .u8 ((l.getD m 0).toNat : Int)) κ) w) : Step P B n p i κ w Z :=
  runR ho (str_run t l ik ix m ht h0 h1 hm) hk

/-- s + t -/
theorem cat_run (t : TypeId) (l m : List UInt8) (hb : l.length + m.length ≤ 9223372036854775807) : (vS (Op.stringOp .add ⟨l.toArray⟩ ⟨m.toArray⟩)).run P w = .ok (.value (.string ⟨(l ++ m).toArray⟩)) w := by
  refine vS_run ?_
  have hs : ∀ l : List UInt8, (⟨l.toArray⟩ : ByteArray).size = l.length := fun _ => rfl
  have hi : IntKind.i64.max = 9223372036854775807 := by decide
  have ha : (⟨l.toArray⟩ ++ ⟨m.toArray⟩ : ByteArray) = ⟨(l ++ m).toArray⟩ := by
    apply ByteArray.ext
    rw [ByteArray.data_append]
    simp
  simp only [Op.stringOp, hs, hi]
  rw [if_neg (by omega), ha]
  rfl
theorem catR (d : Option Nat) (t : TypeId) (l m : List UInt8) (ho : fetch B n p i κ = some (d, vS (Op.stringOp .add ⟨l.toArray⟩ ⟨m.toArray⟩))) (hb : l.length + m.length ≤ 9223372036854775807) (hk : Z (putk d (.string ⟨(l ++ m).toArray⟩) κ) w) : Step P B n p i κ w Z :=
  runR ho (cat_run t l m hb) hk

/-- xs[lo:hi] of a slice. -/
theorem cut_facts (A : Option Addr) (cap l sz : Nat) : ∃ A', A' = (if cap = l then A else A.map (·.add (l * sz))) ∧ (∀ lo hi w cs, Cs lo hi w A cs → cs.length ≤ cap * sz → Cs lo hi w A' (cs.drop (l * sz))) ∧ (∀ ad', A' = some ad' → ∃ ad, A = some ad ∧ ad'.block = ad.block) ∧ (l = 0 → A' = A) := by
  refine ⟨_, rfl, fun _ _ _ _ hc hl => hc.cut l cap hl, ?_, ?_⟩
  · intro ad' had
    by_cases e : cap = l
    · rw [if_pos e] at had
      exact ⟨ad', had, rfl⟩
    · rw [if_neg e] at had
      obtain ⟨ad, h6, rfl⟩ := Option.map_eq_some_iff.1 had
      exact ⟨ad, h6, add_block _ _⟩
  · intro h0
    subst h0
    by_cases e : cap = 0
    · rw [if_pos e]
    · rw [if_neg e]
      cases A <;> simp [Addr.add]
theorem sli_run (t e sz : Nat) (A : Option Addr) (len cap : Nat) (lo hi : Option Value) (l h : Nat) (ht : slB P t e sz = true)
    (hl : (lo = none ∧ l = 0) ∨ ∃ ik x, lo = some (.int ik x) ∧ x = (l : Int)) (hh : (hi = none ∧ h = len) ∨ ∃ ik x, hi = some (.int ik x) ∧ x = (h : Int)) (h1 : l ≤ h) (h2 : h ≤ cap) :
    (vS (Instr.sliceAt t (.slice A len cap) lo hi none)).run P w = .ok (.value (.slice (if cap = l then A else A.map (·.add (l * sz))) (h - l) (cap - l))) w := by
  obtain ⟨h3, inf, h4, h5⟩ := sl_info ht
  refine vS_run ?_
  have hs : (sizeOf e).run P w = .ok sz w := by simp [sizeOf, typeInfo, h4, h5]
  have hb : ∀ (ik : IntKind) (x m : Nat) (c : BoundsCode), x ≤ m → (Instr.sliceBound (.int ik (x : Int)) m c).run P w = .ok x w := by
    intro ik x m c hx
    have hx' : (0 : Int) ≤ x ∧ (x : Int) ≤ m := by omega
    simp only [Instr.sliceBound, asIntOf, Sem.run_bind, Sem.run_pure, Result.andThen_ok, hx', and_self, if_true, Int.toNat_natCast]
  have hbs : (Instr.sliceBounds true len cap lo hi none).run P w = .ok (l, h, cap) w := by
    rcases hl with ⟨rfl, rfl⟩ | ⟨ik, x, rfl, rfl⟩ <;> rcases hh with ⟨rfl, rfl⟩ | ⟨ik', x', rfl, rfl⟩ <;>
      simp only [Instr.sliceBounds, Sem.run_bind, Sem.run_pure, Result.andThen_ok, hb _ _ _ _ h1, hb _ _ _ _ h2]
  simp only [Instr.sliceAt, Instr.slice, Sem.run_bind, Sem.run_pure, Result.andThen_ok, run_underlying h3, hbs, hs]
theorem sliR (d : Option Nat) (t e sz : Nat) (A : Option Addr) (len cap : Nat) (lo hi : Option Value) (l h : Nat) (ho : fetch B n p i κ = some (d, vS (Instr.sliceAt t (.slice A len cap) lo hi none))) (ht : slB P t e sz = true)
    (hl : (lo = none ∧ l = 0) ∨ ∃ ik x, lo = some (.int ik x) ∧ x = (l : Int)) (hh : (hi = none ∧ h = len) ∨ ∃ ik x, hi = some (.int ik x) ∧ x = (h : Int)) (h1 : l ≤ h) (h2 : h ≤ cap)
    (hk : ∀ A', (∀ lo hi w cs, Cs lo hi w A cs → cs.length ≤ cap * sz → Cs lo hi w A' (cs.drop (l * sz))) → (∀ ad', A' = some ad' → ∃ ad, A = some ad ∧ ad'.block = ad.block) → (l = 0 → A' = A) → Z (putk d (.slice A' (h - l) (cap - l)) κ) w) : Step P B n p i κ w Z := by
  obtain ⟨A', e1, h3, h4, h5⟩ := cut_facts A cap l sz
  refine runR ho (sli_run t e sz A len cap lo hi l h ht hl hh h1 h2) ?_
  rw [← e1]
  exact hk A' h3 h4 h5
end


section
variable {P : Program} {B : Code} {n : Cx} {p : List Nat} {i : Nat} {κ : Kn} {w : World} {d : Option Nat} {Z : Kn → World → Prop}

/-- An element's type as append asks it. -/
def elB (P : Program) (t e sz by_ : Nat) (z : Value) : Prop := P.underlying t = some (.slice e) ∧ (P.info? e).map (fun i => (i.zero, i.size, i.bytes)) = some (some z, sz, by_)

/-- append(v, x...), v a row of one's own. -/
theorem appR (d : Option Nat) (t e sz by_ : Nat) (z : Value) (ty : TypeId) (base : Nat) (A X : Option Addr) (m c m' c' : Nat) (xs news : List Value) {lo hi : Nat} (he : elB P t e sz by_ z) (hz : z.cells.size = sz) (hsz : 0 < sz) (ho : fetch B n p i κ = some (d, vS (Builtin.append_ #[t, t] ty #[.slice A m c, .slice X m' c'])))
    (hown : w.ownsRow base e sz (.slice A m c) m xs) (hX : Cs lo hi w X news) (hl : news.length = m' * sz) (h1 : ∀ u ∈ news, u.oneCell' = true) (hb : (m + m') * by_ ≤ 140737488355328) (hby : 0 < by_) (hbase : base ≤ w.heap.size)
    (hk : ∀ A' c1 w1, w1.ownsRow base e sz (.slice A' (m + m') c1) (m + m') (xs ++ news) → Kp (fun k => some k = (Value.slice A m c).ownBlock) w w1 → ((Value.slice A' (m + m') c1).ownBlock = (Value.slice A m c).ownBlock ∨ (Value.slice A' (m + m') c1).ownBlock = some w.heap.size) → m + m' ≤ c1 → w.heap.size ≤ w1.heap.size → Z (putk d (.slice A' (m + m') c1) κ) w1) : Step P B n p i κ w Z := by
  obtain ⟨ht, hinf⟩ := he
  obtain ⟨i0, hi, hzz⟩ := Option.map_eq_some_iff.1 hinf
  simp only [Prod.mk.injEq] at hzz
  obtain ⟨hz0, hz1, hz2⟩ := hzz
  have hmm : m + m' ≤ 140737488355328 := Nat.le_trans (Nat.le_mul_of_pos_right _ hby) hb
  have hrun : ∃ v' w', (Builtin.append_ #[t, t] ty #[.slice A m c, .slice X m' c']).run P w = .ok v' w' ∧ w'.ownsRow base e sz v' (m + m') (xs ++ news) ∧ w.grownBy w' (Value.slice A m c).ownBlock ∧ (v'.ownBlock = (Value.slice A m c).ownBlock ∨ v'.ownBlock = some w.heap.size) := by
    rcases X with _ | ad
    · have hn : news = [] := by
        cases news with
        | nil => rfl
        | cons u r =>
          obtain ⟨ad, h, _⟩ := hX 0 u rfl
          cases h
      subst hn
      have hm0 : m' = 0 := by
        rcases Nat.eq_zero_or_pos m' with h | h
        · exact h
        · have : 0 < m' * sz := Nat.mul_pos h hsz
          simp at hl
          omega
      subst hm0
      refine ⟨.slice A m c, w, ?_, by simpa using hown, World.grownBy.refl w _, .inl rfl⟩
      rcases hown.2 with ⟨hv, hn⟩ | ⟨g, cap, cur, hv, _, _, hnc, _⟩
      · cases hv
        simp [Builtin.append_, run_underlying ht, sizeOf, typeInfo, hi, Builtin.lenOf, Builtin.firstCells]
      · cases hv
        simp [Builtin.append_, run_underlying ht, sizeOf, typeInfo, hi, Builtin.lenOf, Builtin.firstCells, hnc, storeCells]
    · obtain ⟨v1, w1, hr, h2, h3, _, h5⟩ := run_append_own_at (P := P) w base t ty e i0 z sz by_ ht hi hz0 hz1 hz2 hz hsz _ m xs hown ad m' c' news hl (fun j u hu => by
          obtain ⟨ad', e1, _, _, hc⟩ := hX j u hu
          cases e1
          exact hc) h1 (by simp only [maxLen]; omega) hb hbase
      exact ⟨v1, w1, hr, h2, h3, h5⟩
  obtain ⟨v', w', hr, h2, h3, h4⟩ := hrun
  obtain ⟨A', c1, rfl, h5, _⟩ := own_shape h2
  exact runR ho (vS_run hr) (hk A' c1 w' h2 (Kp.of_gb h3 (run_drawn _ _ hr)) h4 h5 h3.size)

/-- append(v, x...) within the capacity, v over a block that is known whole. -/
theorem appRoomR (d : Option Nat) (t e sz by_ : Nat) (z : Value) (ty : TypeId) (g : Nat) (X : Option Addr) (m c m' c' : Nat) (cur : Array Value) (news : List Value) {lo hi : Nat} (he : elB P t e sz by_ z) (ho : fetch B n p i κ = some (d, vS (Builtin.append_ #[t, t] ty #[.slice (some ⟨g, 0, none⟩) m c, .slice X m' c'])))
    (hg : w.heap[g]? = some (.cells cur e (0, 0))) (hX : Cs lo hi w X news) (hl : news.length = m' * sz) (h1 : ∀ u ∈ news, u.oneCell' = true) (hroom : m + m' ≤ c) (hcs : c * sz ≤ cur.size) (hpos : 0 < m' * sz)
    (hk : ∀ w1, Kp (fun k => k = g) w w1 → w1.heap[g]? = some (.cells (cur.toList.take (m * sz) ++ news ++ cur.toList.drop ((m + m') * sz)).toArray e (0, 0)) → w1.heap.size = w.heap.size → Z (putk d (.slice (some ⟨g, 0, none⟩) (m + m') c) κ) w1) : Step P B n p i κ w Z := by
  obtain ⟨ht, hinf⟩ := he
  obtain ⟨i0, hi, hzz⟩ := Option.map_eq_some_iff.1 hinf
  simp only [Prod.mk.injEq] at hzz
  obtain ⟨hz0, hz1, hz2⟩ := hzz
  rcases X with _ | ad
  · cases news with
    | nil => simp at hl; omega
    | cons u r =>
      obtain ⟨ad, h, _⟩ := hX 0 u rfl
      cases h
  · have hfit : m * sz + news.length ≤ cur.size := by
      rw [hl, ← Nat.add_mul]
      exact Nat.le_trans (Nat.mul_le_mul_right _ hroom) hcs
    have hr := run_append_room (P := P) w t ty e i0 ht hi g m c cur hg ad m' c' news (by rw [hz1]; exact hl) (fun j u hu => by
          obtain ⟨ad', e1, _, _, hc⟩ := hX j u hu
          cases e1
          exact hc) h1 hroom (by rw [hz1]; exact hfit)
    rw [hz1] at hr
    have hlt := blk_lt hg
    refine runR ho (vS_run hr) (hk _ ⟨rfl, rfl, rfl, by simp [World.setRow], fun k hk hne => ?_, Nat.le_refl _⟩ ?_ (by simp [World.setRow]))
    · simp only [World.setRow, Array.getElem?_modify]
      rw [if_neg (fun e => hne e.symm)]
    · simp only [World.setRow, Array.getElem?_modify, hg, Nat.add_mul, hl]
      simp

/-- string(b) -/
theorem b2s_run (src dst e' : TypeId) (X : Option Addr) (m c : Nat) (l : List UInt8) {lo hi : Nat} (hs : P.underlying src = some (.slice e')) (he : P.underlying e' = some (.int .u8)) (hd : P.underlying dst = some .string)
    (hX : Cs lo hi w X (bs l)) (hl : l.length = m) : (vS (convert src dst (.slice X m c))).run P w = .ok (.value (.string ⟨l.toArray⟩)) w := by
  refine vS_run ?_
  have hstr : ∀ l : List UInt8, strOfNums (l.map fun b => (b.toNat : Int)) = ⟨l.toArray⟩ := by
    intro l
    unfold strOfNums
    congr 1
    apply congrArg
    rw [List.map_map]
    conv => rhs; rw [← List.map_id l]
    exact List.map_congr_left fun x _ => by simp
  rcases X with _ | ad
  · have hn : l = [] := by
      cases l with
      | nil => rfl
      | cons u r =>
        obtain ⟨ad, h, _⟩ := hX 0 (.int .u8 (u.toNat : Int)) rfl
        cases h
    subst hn
    exact run_convert_bytes_nil w src e' hs he m c dst hd
  · have hlc : (loadCells ad m).run P w = .ok (bs l).toArray w := by
      have := run_loadCells_list (P := P) w ad (bs l) (fun j v hj => by
        obtain ⟨ad', e1, _, _, hc⟩ := hX j v hj
        cases e1
        exact hc)
      rwa [bs_length, hl] at this
    have e : bs l = (l.map fun b => (b.toNat : Int)).map (Value.int .u8) := by rw [List.map_map]; rfl
    rw [e] at hlc
    rw [run_convert_bytes_string w src dst e' _ m c hs he hd, run_bytesToString w _ m c _ hlc, foldl_push_bytes, ← hstr l]
    simp [strOfNums, ByteArray.empty, ByteArray.emptyWithCapacity]
    rfl
theorem b2sR (d : Option Nat) (src dst e' : TypeId) (X : Option Addr) (m c : Nat) (l : List UInt8) {lo hi : Nat} (hs : P.underlying src = some (.slice e')) (he : P.underlying e' = some (.int .u8)) (hd : P.underlying dst = some .string)
    (ho : fetch B n p i κ = some (d, vS (convert src dst (.slice X m c)))) (hX : Cs lo hi w X (bs l)) (hl : l.length = m) (hk : Z (putk d (.string ⟨l.toArray⟩) κ) w) : Step P B n p i κ w Z :=
  runR ho (b2s_run src dst e' X m c l hs he hd hX hl) hk

/-- []byte(s) -/
theorem s2bR (d : Option Nat) (src dst e : TypeId) (l : List UInt8) {u : TypeDesc} (hs : P.underlying src = some u) (hd : P.underlying dst = some (.slice e)) (he : P.underlying e = some (.int .u8))
    (ho : fetch B n p i κ = some (d, vS (convert src dst (.string ⟨l.toArray⟩)))) (hk : ∀ A' c' w1, Ex w w1 → Cs w.heap.size w1.heap.size w1 A' (bs l) → l.length ≤ c' → w1.heap.size = w.heap.size + 1 → Z (putk d (.slice A' l.length c') κ) w1) : Step P B n p i κ w Z := by
  refine runR ho (vS_run (Lib.run_convert_string_bytes w src dst e ⟨l.toArray⟩ hs hd he)) (hk _ _ _ ?_ ?_ ?_ (Lib.bytesWorld_size w e _))
  · exact ⟨rfl, rfl, rfl, by rw [Lib.bytesWorld_size]; omega, fun k hk _ => Lib.bytesWorld_at_old w e _ k hk, bytesWorld_drawn w e _⟩
  · intro j v hj
    have hlt : j < l.length := by
      have := (List.getElem?_eq_some_iff.1 hj).1
      rwa [bs_length] at this
    refine ⟨_, rfl, Nat.le_refl _, by rw [Lib.bytesWorld_size]; exact Nat.lt_succ_self _, ?_⟩
    rw [Addr.add_lit, Nat.zero_add, Lib.bytesWorld_cell w e ⟨l.toArray⟩ j hlt]
    rw [bs_get _ _ hlt] at hj
    exact hj
  · exact grownCap_ge w (⟨l.toArray⟩ : ByteArray).size 0 e
end

section
variable {P : Program} {B : Code} {Q : Exit → Act → World → Prop} [NPc Q] {J : Nat → Act → World → Prop} {n : Cx} {p : List Nat} {k : List It} {κ : Kn} {w : World} {fn : Func} {Rp : Ending → World → Prop} {S : World → Prop} {done : List Nat} {i : Nat}
/-- The beginning of a region that draws its order: T: the blocks that may turn within it. -/
theorem drawT (T : Nat → Prop) (hd : isDraw B p = true) (hm : P.follows .mixedOrders = true)
    (h : ∀ w1 : World, Ex w w1 → w1.heap.size = w.heap.size → D P B Q J n p k (Kp T w1) [] κ w1) : R P B Q J n (.co p :: k) κ w :=
  drawR _ hd hm (h { w with drawn := w.drawn + 1 } ⟨rfl, rfl, rfl, Nat.le_refl _, fun _ _ _ => rfl, Nat.le_succ _⟩ rfl)
theorem sliD {d : Option Nat} (t e sz : Nat) (A : Option Addr) (len cap : Nat) (lo hi : Option Value) (l h : Nat) (hf : freeB B p done i = true) (ho : fetch B n p i κ = some (d, vS (Instr.sliceAt t (.slice A len cap) lo hi none))) (ht : slB P t e sz = true)
    (hl : (lo = none ∧ l = 0) ∨ ∃ ik x, lo = some (.int ik x) ∧ x = (l : Int)) (hh : (hi = none ∧ h = len) ∨ ∃ ik x, hi = some (.int ik x) ∧ x = (h : Int)) (h1 : l ≤ h) (h2 : h ≤ cap)
    (hk : ∀ A', (∀ lo hi w cs, Cs lo hi w A cs → cs.length ≤ cap * sz → Cs lo hi w A' (cs.drop (l * sz))) → (∀ ad', A' = some ad' → ∃ ad, A = some ad ∧ ad'.block = ad.block) → (l = 0 → A' = A) → D P B Q J n p k S (done ++ [i]) (putk d (.slice A' (h - l) (cap - l)) κ) w) : D P B Q J n p k S done κ w := by
  obtain ⟨A', e1, h3, h4, h5⟩ := cut_facts A cap l sz
  refine takeD hf ho (fun w' _ => sli_run t e sz A len cap lo hi l h ht hl hh h1 h2) ?_
  rw [← e1]
  exact hk A' h3 h4 h5
end
end Go.Proofs.YtbldeodchhfjfaaGreatDoor.K
