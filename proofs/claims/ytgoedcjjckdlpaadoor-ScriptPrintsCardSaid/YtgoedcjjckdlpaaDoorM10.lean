/- Functions of the library by the shelf's contracts: bytes.Clone, strings.Join, strings.Repeat; the builder of strings. -/
import Derived.Test.YtgoedcjjckdlpaaDoorM7
import Derived.Shelf.Bytes.SlClone
import Derived.Shelf.Strings.OnBuilder
import Derived.Shelf.Strings.Repeat
import Derived.Shelf.Strconv.Itoa3
set_option linter.unusedVariables false
set_option linter.unusedSimpArgs false
set_option linter.unusedSectionVars false
namespace Go.Proofs.YtgoedcjjckdlpaaDoor.K
open Go Go.RowKit Go.Op
theorem ex_below {w w' : World} (h : Below w.heap.size w w') : Ex w w' := ⟨h.os, h.tape, h.output, h.size, fun k hk _ => h.block k hk⟩
theorem Rows.str {m : Mem} : ∀ {l : List (List UInt8)} {xs : List Value}, Rows rStr m xs l → xs = l.map fun x => Value.string ⟨x.toArray⟩
  | [], xs, h => h
  | b :: l, xs, ⟨cs, ys, h1, h2, h3⟩ => by
    rw [h1, show cs = _ from h2.1, Rows.str h3]
    rfl
theorem repL_len (l : List UInt8) : ∀ k, (Lib.repeatL l k).length = l.length * k
  | 0 => rfl
  | k + 1 => by rw [Lib.repeatL, List.length_append, repL_len l k, Nat.mul_succ]; omega
theorem repL_le {l : List UInt8} {c : Int} (h : 0 ≤ c ∧ c ≤ 137438953472 ∧ l.length * c.toNat ≤ 137438953472) : (Lib.repeatL l c.toNat).length ≤ 9223372036854775807 := by rw [repL_len]; exact Nat.le_trans h.2.2 (by decide)
section
variable {P : Program} {B : Code} {n : Cx} {p : List Nat} {i : Nat} {κ : Kn} {w : World} {Z : Kn → World → Prop} {w0 : World} {F0 : Nat → Prop} {m0 m : Mem} {σ : List Item}
/-- bytes.Clone: a row of one's own. -/
theorem cloneS {ρ : Go.Shelf.Ren} (Ly : Go.Proofs.SlLaysK.n4 P ρ) (d : Option Nat) (f e : Nat) (A : Option Addr) (c : Nat) (l : List UInt8) (hf : ρ.f 4 = f) (he : ρ.t 5 = e) (H : St w0 F0 m0 m σ w) (hs : SlI rU8 m A c l) (hsz : l.length ≤ 137438953472)
    (hcall : ∀ args w, (callFunc f args).run P w = .ok (.enter f args) w) (ho : fetch B n p i κ = some (d, callFunc f #[.slice A l.length c]))
    (hk : ∀ A' c' w1, St w0 F0 m0 m (rowI rU8 e A' c' l :: σ) w1 → Z (putk d (.slice A' l.length c') κ) w1) : Step P B n p i κ w Z := by
  subst hf; subst he
  have hb := hs.bytes
  cases A with
  | none =>
    have hl : l = [] := by
      cases l with
      | nil => rfl
      | cons x l => obtain ⟨ad, h, _⟩ := hb 0 _ (rfl : (bs (x :: l))[0]? = some _); cases h
    subst hl
    refine callR (Φ := fun v w' => v = .slice none 0 0 ∧ w' = w) d (ρ.f 4) _ hcall ((Go.Proofs.Any.bytes_Clone_nil Ly 0 c w).mono ?_) ho ?_
    · rintro e' w' ⟨h4, h5⟩; exact ⟨_, h4, rfl, h5⟩
    · rintro v w' ⟨rfl, rfl⟩; exact hk none 0 w' (H.nilR rU8 _)
  | some a =>
    refine callR (Φ := fun v' w' => w'.ownsRow w.heap.size (ρ.t 5) 1 v' l.length (bs l) ∧ Below w.heap.size w w') d (ρ.f 4) _ hcall ((Go.Proofs.Any.bytes_Clone_at Ly a l.length c (l.map fun b => (b.toNat : Int)) w (by simp) (by omega) ?_).mono ?_) ho ?_
    · intro i hi
      obtain ⟨ad, h, h2⟩ := hb i _ (bs_get l i hi)
      cases h
      rw [H.has.cell h2]
      simp [List.getD_eq_getElem?_getD, List.getElem?_eq_getElem hi]
    · rintro e' w' ⟨v', h4, h5, _, h6⟩
      refine ⟨v', h4, ?_, h6⟩
      rw [List.map_map] at h5
      exact h5
    · rintro v' w' ⟨h1, h2⟩
      have hx := ex_below h2
      rcases h1.2 with ⟨rfl, h0⟩ | ⟨g, cap, cur, rfl, hb, r⟩
      · have hl : l = [] := List.eq_nil_of_length_eq_zero h0
        subst hl
        exact hk none 0 w' ((H.ex hx).nilR rU8 _)
      · exact hk (some ⟨g, 0, none⟩) cap w' (H.add (j := rowI rU8 (ρ.t 5) (some ⟨g, 0, none⟩) cap l) (G := fun k => k = g) hx ⟨⟨bs l, Rows.u8.2 rfl, h1.1, .inr ⟨g, cap, cur, rfl, Nat.zero_le _, r⟩⟩, fun k => ⟨fun e => by subst e; rfl, fun e => by cases e; rfl⟩⟩ (fun k e => by subst e; exact hb))
/-- strings.Join -/
theorem joinS {ρ : Go.Shelf.Ren} (Ly : Go.Proofs.Lays.n156 P ρ) (X : Go.Proofs.Builder.Extra P ρ) (d : Option Nat) (f n' e : Nat) (A : Option Addr) (c : Nat) (l : List (List UInt8)) (sep : List UInt8) (hf : ρ.f 156 = f) (hsz : l.length ≤ 137438953472 ∧ (Lib.join l sep).length ≤ 137438953472) (H : St w0 F0 m0 m σ w) (hn : σ[n']? = some (rowI rStr e A c l))
    (hcall : ∀ args w, (callFunc f args).run P w = .ok (.enter f args) w) (ho : fetch B n p i κ = some (d, callFunc f #[.slice A l.length c, .string ⟨sep.toArray⟩]))
    (hk : ∀ w1, St w0 F0 m0 m σ w1 → Z (putk d (.string ⟨(Lib.join l sep).toArray⟩) κ) w1) : Step P B n p i κ w Z := by
  subst hf
  obtain ⟨F, ⟨⟨xs, hr, hown⟩, hF⟩, _, _⟩ := H.upd n' hn
  have hx := Cs.of_own hown
  have hxs := Rows.str hr
  subst hxs
  rcases hown.2 with ⟨hv, h0⟩ | ⟨g, cap, cur, hv, _, hg, hle, _⟩
  · have hl : l = [] := List.eq_nil_of_length_eq_zero h0
    subst hl
    refine callR (Φ := fun v w' => v = .string ⟨#[]⟩ ∧ w' = w) d (ρ.f 156) _ hcall ((Go.Proofs.Any.strings_Join_none Ly X A c ⟨sep.toArray⟩ w).mono ?_) ho ?_
    · rintro e' w' ⟨h4, h5⟩; exact ⟨_, h4, rfl, h5⟩
    · rintro v w' ⟨rfl, rfl⟩; exact hk w' H
  · cases hv
    have e1 : (l.map fun x => (⟨x.toArray⟩ : ByteArray)).map (·.data.toList) = l := by rw [List.map_map]; exact List.map_id'' (fun x => rfl) _
    have hcells : ∀ (j : Nat) x, (l.map fun x => (⟨x.toArray⟩ : ByteArray))[j]? = some x → w.cell? ⟨g, 0 + j, none⟩ = some (.string x) := by
      intro j x hj
      rw [List.getElem?_map] at hj
      obtain ⟨z, hz, rfl⟩ := Option.map_eq_some_iff.1 hj
      obtain ⟨ad, h1, _, _, h2⟩ := hx j (.string ⟨z.toArray⟩) (by rw [List.getElem?_map, hz]; rfl)
      cases h1
      rw [Addr.add_lit] at h2
      exact h2
    have hlen : (l.map fun x => (⟨x.toArray⟩ : ByteArray)).length = l.length := List.length_map ..
    have hblk : g < w.heap.size := blk_lt hg
    obtain ⟨ys, hys⟩ : ∃ ys, ys = l.map fun x => (⟨x.toArray⟩ : ByteArray) := ⟨_, rfl⟩
    rw [← hys] at e1 hcells hlen
    have hc := Go.Proofs.Any.strings_Join Ly X g 0 c ys ⟨sep.toArray⟩ w hcells hblk (by omega) (by omega) (by rw [e1]; exact Nat.le_trans hsz.2 (by omega))
    rw [hlen, e1] at hc
    refine callR (Φ := fun v w' => v = .string ⟨(Lib.join l sep).toArray⟩ ∧ Below w.heap.size w w') d (ρ.f 156) _ hcall (hc.mono ?_) ho ?_
    · rintro e' w' ⟨h4, h5⟩
      exact ⟨_, h4, rfl, h5⟩
    · rintro v w' ⟨rfl, h⟩; exact hk w' (H.ex (ex_below h))
/-- strings.Repeat -/
theorem repS {ρ : Go.Shelf.Ren} (Ly : Go.Proofs.Lays.n105 P ρ) (X : Go.Proofs.Builder.Extra P ρ) (d : Option Nat) (f : Nat) (s : List UInt8) (c : Int) (hf : ρ.f 105 = f) (H : St w0 F0 m0 m σ w) (hc : 0 ≤ c ∧ c ≤ 137438953472 ∧ s.length * c.toNat ≤ 137438953472)
    (hcall : ∀ args w, (callFunc f args).run P w = .ok (.enter f args) w) (ho : fetch B n p i κ = some (d, callFunc f #[.string ⟨s.toArray⟩, .int .i64 c]))
    (hk : ∀ w1, St w0 F0 m0 m σ w1 → Z (putk d (.string ⟨(Lib.repeatL s c.toNat).toArray⟩) κ) w1) : Step P B n p i κ w Z := by
  subst hf
  obtain ⟨k, rfl⟩ : ∃ k : Nat, c = (k : Int) := ⟨c.toNat, by omega⟩
  rw [Int.toNat_natCast] at hk hc
  refine callR (Φ := fun v w' => v = .string ⟨(Lib.repeatL s k).toArray⟩ ∧ Below w.heap.size w w') d (ρ.f 105) _ hcall ((Go.Proofs.Any.strings_Repeat Ly X ⟨s.toArray⟩ k w (by omega) (by show s.length * k ≤ _; omega)).mono ?_) ho ?_
  · rintro e' w' ⟨h4, h5⟩; exact ⟨_, h4, rfl, h5⟩
  · rintro v w' ⟨rfl, h⟩; exact hk w' (H.ex (ex_below h))
/-! ### the builder -/
/-- What a builder's first cell holds. -/
def bptr (g : Nat) (a : Bool) : Value := .pointer (cond a (some ⟨g, 0, none⟩) none)
theorem kp_setCell {w : World} {g off : Nat} (v : Value) : Kp (fun k => k = g) w (w.setCell ⟨g, off, none⟩ v) := ⟨rfl, rfl, rfl, by simp [World.setCell], fun k hk hne => by
  simp only [World.setCell, Array.getElem?_modify]
  rw [if_neg (fun e => hne e.symm)]⟩
theorem kp_freeze {S : Nat → Prop} {a w : World} (h : Kp S a w) {p : Addr} (hp : S p.block) (n : Nat) : Kp S a (w.freeze p n) := by
  unfold World.freeze
  split
  · exact h
  · exact ⟨h.os, h.tape, h.output, Nat.le_trans h.size (by simp), fun k hk hne => by
      simp only [Array.getElem?_modify]
      rw [if_neg (fun (e : p.block = k) => hne (by rw [← e]; exact hp))]
      exact h.block k hk hne⟩
/-- copyCheck -/
theorem ckS {ρ : Go.Shelf.Ren} (Ly : Go.Proofs.Lays.n240 P ρ) (X : Go.Proofs.Builder.Extra P ρ) (d : Option Nat) (f T n' g : Nat) (a : Bool) (v : Value) (hf : ρ.f 240 = f) (hT : ρ.t 72 = T) (H : St w0 F0 m0 m σ w) (hn : σ[n']? = some (blkI g [bptr g a, v] T))
    (hcall : ∀ args w, (callFunc f args).run P w = .ok (.enter f args) w) (ho : fetch B n p i κ = some (d, callFunc f #[.pointer (some ⟨g, 0, none⟩)]))
    (hk : ∀ w1, St w0 F0 m0 m (σ.set n' (blkI g [.pointer (some ⟨g, 0, none⟩), v] T)) w1 → Z (putk d (.tuple #[]) κ) w1) : Step P B n p i κ w Z := by
  subst hf; subst hT
  obtain ⟨F, h1, h2, h3⟩ := H.upd n' hn
  have hb : w.heap[g]? = some (.cells #[bptr g a, v] (ρ.t 72) (0, 0)) := h1.1
  have hF : ∀ k, k = g → F k ∨ w.heap.size ≤ k := fun k e => .inl ((h1.2 k).2 e)
  cases a with
  | false =>
    refine callR (Φ := fun x w' => x = .tuple #[] ∧ w' = w.setCell ⟨g, 0, none⟩ (.pointer (some ⟨g, 0, none⟩))) d (ρ.f 240) _ hcall ((Go.Proofs.Any.Builder_copyCheck_fresh Ly X.toX72 g w (by rw [Lib.cell_of_heap hb]; rfl) (by simp [World.shape?, hb]) (Lib.frozen_of_heap hb 0)).mono ?_) ho ?_
    · rintro e' w' ⟨h4, h5⟩; exact ⟨_, h4, rfl, h5⟩
    · rintro x w' ⟨rfl, rfl⟩
      refine hk _ (h3 _ _ (fun k => k = g) ((kp_setCell _).mono (fun k _ e => (h1.2 k).2 e)) ⟨?_, fun _ => Iff.rfl⟩ hF)
      simp [World.setCell, Array.getElem?_modify, hb]
  | true =>
    refine callR (Φ := fun x w' => x = .tuple #[] ∧ w' = w) d (ρ.f 240) _ hcall ((Go.Proofs.Any.Builder_copyCheck_used Ly X.toX72 g w (by rw [Lib.cell_of_heap hb]; rfl)).mono ?_) ho ?_
    · rintro e' w' ⟨h4, h5⟩; exact ⟨_, h4, rfl, h5⟩
    · rintro x w' ⟨rfl, rfl⟩
      exact hk _ (h3 _ _ (fun k => k = g) (Kp.refl _ _) ⟨hb, fun _ => Iff.rfl⟩ hF)
end
section
variable {P : Program}
set_option maxHeartbeats 1000000 in
set_option maxRecDepth 100000 in
open Go.Shelf Go.Proofs in
/-- String of a builder that holds a byte: nothing turns but its buffer's block. -/
theorem bldString {ρ : Go.Shelf.Ren} (L : Lays.n169 P ρ) (X : Builder.Extra P ρ) (b : Nat) (l : List UInt8) (p v : Value) (w : World) (hbk : w.heap[b]? = some (.cells #[p, v] (ρ.t 72) (0, 0))) (hown : w.ownsRow 0 (ρ.t 5) 1 v l.length (bs l)) (h0 : l ≠ []) :
    Calls P (ρ.f 169) #[.pointer (some ⟨b, 0, none⟩)] w fun e w' => e = .returned (.string ⟨l.toArray⟩) ∧ Kp (fun k => v.ownBlock = some k) w w' := by
  have hl0 : l.length ≠ 0 := by simpa using h0
  obtain ⟨g, cap, cur, rfl, hbg, hg, hnc, hcm, hcs, htake⟩ : ∃ g cap cur, v = .slice (some ⟨g, 0, none⟩) l.length cap ∧ 0 ≤ g ∧ w.heap[g]? = some (.cells cur (ρ.t 5) (0, 0)) ∧ l.length ≤ cap ∧ cap ≤ maxLen ∧ cur.size = cap * 1 ∧ cur.toList.take (l.length * 1) = bs l := by
    rcases hown.2 with ⟨_, hz⟩ | ⟨g, cap, cur, hv, r⟩
    · exact absurd hz hl0
    · exact ⟨g, cap, cur, hv, r⟩
  have c1 : w.drew.cell? ⟨b, 1, none⟩ = some (.slice (some ⟨g, 0, none⟩) l.length cap) := by
    have : w.drew.heap[b]? = some (.cells #[p, .slice (some ⟨g, 0, none⟩) l.length cap] (ρ.t 72) (0, 0)) := hbk
    rw [Lib.cell_of_heap this]; rfl
  have hSD : (Builtin.unsafeSliceData_ #[(ρ.t 37)] (ρ.t 127) #[.slice (some ⟨g, 0, none⟩) l.length cap]).run P w.drew = .ok (.pointer (some ⟨g, 0, none⟩)) w.drew :=
    Lib.run_unsafeSliceData_row _ _ _ _ _ _ (by omega)
  have hUS : (Builtin.unsafeString_ #[(ρ.t 127), (ρ.t 3)] (ρ.t 9) #[.pointer (some ⟨g, 0, none⟩), .int .i64 l.length]).run P w.drew = .ok (.string ⟨l.toArray⟩) (w.drew.freeze ⟨g, 0, none⟩ l.length) := by
    refine Lib.run_unsafeString_row w.drew (ρ.t 127) (ρ.t 3) (ρ.t 9) (ρ.t 5) L.t127 X.cellsByte g cur.size (by have hg' : w.drew.heap[g]? = some (.cells cur (ρ.t 5) (0, 0)) := hg; simp [World.shape?, hg']) l h0 (by omega) (by unfold maxLen at hcm; omega) ?_
    intro j x hx
    have := hown.cells (g := g) rfl j (.int .u8 x.toNat) (by simp [bs, hx])
    exact this
  have mixed := L.mixed
  have t72 := L.t72; have a72 := L.a72; have z72 := L.z72; have v72 := L.v72; have u72 := run_underlying L.t72
  have t70 := L.t70; have a70 := L.a70; have z70 := L.z70; have v70 := L.v70; have u70 := run_underlying L.t70
  have t37 := L.t37; have a37 := L.a37; have z37 := L.z37; have v37 := L.v37; have u37 := run_underlying L.t37
  have t127 := L.t127; have a127 := L.a127; have z127 := L.z127; have v127 := L.v127; have u127 := run_underlying L.t127
  have t3 := L.t3; have a3 := L.a3; have z3 := L.z3; have v3 := L.v3; have u3 := run_underlying L.t3
  have t9 := L.t9; have a9 := L.a9; have z9 := L.z9; have v9 := L.v9; have u9 := run_underlying L.t9
  have t5 := X.t5; have a5 := X.a5; have z5 := X.z5; have v5 := X.v5; have u5 := run_underlying X.t5
  go_enter L.f169, Body.n169_ntmps ρ
  go_wp2
  go_region_o
  all_goals (go_wp2; go_ret; exact ⟨rfl, kp_freeze (S := fun k => (Value.slice (some ⟨g, 0, none⟩) l.length cap).ownBlock = some k) (a := w) (w := w.drew) ⟨rfl, rfl, rfl, Nat.le_refl _, fun _ _ _ => rfl⟩ (p := ⟨g, 0, none⟩) rfl _⟩)
end
section
variable {P : Program} {B : Code} {n : Cx} {p : List Nat} {i : Nat} {κ : Kn} {w : World} {Z : Kn → World → Prop} {w0 : World} {F0 : Nat → Prop} {m0 m : Mem} {σ : List Item}
theorem bldStrS {ρ : Go.Shelf.Ren} (Ly : Go.Proofs.Lays.n169 P ρ) (X : Go.Proofs.Builder.Extra P ρ) (d : Option Nat) (f T e n1 n2 g : Nat) (q : Value) (A : Option Addr) (c : Nat) (l : List UInt8) (hf : ρ.f 169 = f) (hT : ρ.t 72 = T) (he : ρ.t 5 = e) (H : St w0 F0 m0 m σ w)
    (hn1 : σ[n1]? = some (blkI g [q, .slice A l.length c] T)) (hn2 : σ[n2]? = some (rowI rU8 e A c l))
    (hcall : ∀ args w, (callFunc f args).run P w = .ok (.enter f args) w) (ho : fetch B n p i κ = some (d, callFunc f #[.pointer (some ⟨g, 0, none⟩)]))
    (hk : ∀ w1, St w0 F0 m0 m (σ.eraseIdx n2) w1 → Z (putk d (.string ⟨l.toArray⟩) κ) w1) : Step P B n p i κ w Z := by
  subst hf; subst hT; subst he
  have hb := H.blk n1 hn1
  obtain ⟨F, ⟨⟨xs, hr, hown⟩, hF⟩, h2, h3⟩ := H.upd n2 hn2
  have hxs := Rows.u8.1 hr
  subst hxs
  have fin : ∀ w1, Kp F w w1 → St w0 F0 m0 m (σ.eraseIdx n2) w1 := fun w1 hk => by
    have h4 := h3 w1 emp (fun _ => False) hk (fun _ e => e) (fun _ e => e.elim)
    obtain ⟨e1, e2⟩ := set_erase (j := emp) hn2
    rw [← e2]
    exact h4.drop n2 e1
  refine callR (Φ := fun v w' => v = .string ⟨l.toArray⟩ ∧ Kp F w w') d (ρ.f 169) _ hcall ?_ ho ?_
  · by_cases h0 : l = []
    · subst h0
      have key : ∀ {w' : World}, Below w.heap.size w w' → Kp F w w' := fun h => (ex_below h).mono (fun _ _ e => e.elim)
      rcases hown.2 with ⟨hv, _⟩ | ⟨g', cap, cur, hv, _, hg, _⟩
      · cases hv
        exact (Go.Proofs.Any.Builder_String_nil Ly X w.heap.size g q w hb).mono fun e' w' h => ⟨_, h.1, rfl, key h.2⟩
      · cases hv
        by_cases hc0 : c = 0
        · subst hc0
          exact (Go.Proofs.Any.Builder_String_noroom Ly X w.heap.size g g' q cur w (Nat.le_refl _) hb hg).mono fun e' w' h => ⟨_, h.1, rfl, key h.2⟩
        · exact (Go.Proofs.Any.Builder_String_room Ly X w.heap.size g g' c q w hc0 hb).mono fun e' w' h => ⟨_, h.1, rfl, key h.2⟩
    · exact (bldString Ly X g l q _ w hb hown h0).mono fun e' w' h => ⟨_, h.1, rfl, h.2.mono (fun k _ e => (hF k).2 e)⟩
  · rintro v w' ⟨rfl, h⟩
    exact hk w' (fin w' h)
/-- A string out of the first bytes of an array of one's own. -/
theorem b2sA (d : Option Nat) (src dst e' : TypeId) (X : Option Addr) (k c : Nat) (l : List UInt8) (hs : P.underlying src = some (.slice e')) (he : P.underlying e' = some (.int .u8)) (hd : P.underlying dst = some .string)
    (ho : fetch B n p i κ = some (d, vS (convert src dst (.slice X k c)))) {lo hi : Nat} (hX : Cs lo hi w X (bs l)) (hm : l.length = k ∧ k ≤ 9223372036854775807) (hk : Z (putk d (.string ⟨l.toArray⟩) κ) w) : Step P B n p i κ w Z := by
  obtain ⟨rfl, _⟩ := hm
  exact b2sS d src dst e' X c l hs he hd ho hX hk
/-- strconv.Itoa -/
theorem itoaS {ρ : Go.Shelf.Ren} (Ly : Go.Proofs.LaysM.n171 P ρ) (d : Option Nat) (f g : Nat) (x : Int) {l : List UInt64} (hf : ρ.f 171 = f) (hg : P.globalNamed "internal/strconv.uint64pow10" = some g) (hT : TabM m g (l.map fU64)) (hl : l.map fU64 = Lib.pow10Tab.map fun z => Value.int .u64 z)
    (h0 : -9223372036854775808 ≤ x ∧ x ≤ 9223372036854775807) (H : St w0 F0 m0 m σ w) (hcall : ∀ args w, (callFunc f args).run P w = .ok (.enter f args) w) (ho : fetch B n p i κ = some (d, callFunc f #[.int .i64 x]))
    (hk : ∀ w1, St w0 F0 m0 m σ w1 → Z (putk d (.string ⟨(Lib.itoa x).toArray⟩) κ) w1) : Step P B n p i κ w Z := by
  subst hf
  obtain ⟨t, fr, h1⟩ := hT
  rw [hl] at h1
  have htab : Lib.TabIs P w "internal/strconv.uint64pow10" .u64 Lib.pow10Tab := by
    unfold Lib.TabIs World.var?
    rw [hg]
    simp [H.has _ _ h1]
  refine callR (Φ := fun v w' => v = .string ⟨(Lib.itoa x).toArray⟩ ∧ Ex w w') d (ρ.f 171) _ hcall ((Go.Proofs.Any.strconv_Itoa Ly x h0.1 h0.2 w htab).mono ?_) ho ?_
  · rintro e' w' ⟨h4, k, os, rfl⟩
    exact ⟨_, h4, rfl, ⟨rfl, rfl, rfl, by simp [Go.Sort.grow], fun k hk _ => by simp [Go.Sort.grow, Array.getElem?_append, show k < w.heap.size from hk]⟩⟩
  · rintro v w' ⟨rfl, h⟩; exact hk w' (H.ex h)
theorem decDigits_pos (u : Nat) : 1 ≤ (Lib.decDigits u).length := by
  unfold Lib.decDigits
  split
  · simp
  · rw [List.length_append]; simp
theorem decDigits_len : ∀ (k u : Nat), u < 10 ^ (k + 1) → (Lib.decDigits u).length ≤ k + 1
  | 0, u, h => by unfold Lib.decDigits; rw [dif_pos (by omega)]; simp
  | k + 1, u, h => by
    unfold Lib.decDigits
    split
    · simp
    · have := decDigits_len k (u / 10) (by have : 10 ^ (k + 1 + 1) = 10 * 10 ^ (k + 1) := by rw [Nat.pow_succ]; omega
                                           omega)
      rw [List.length_append]; simp; omega
theorem itoa_le {x : Int} (h0 : -9223372036854775808 ≤ x ∧ x ≤ 9223372036854775807) : (Lib.itoa x).length ≤ 9223372036854775807 := by
  unfold Lib.itoa
  split
  · have := decDigits_len 19 x.natAbs (by omega)
    rw [List.length_cons]; omega
  · have := decDigits_len 19 x.toNat (by omega)
    omega
end
end Go.Proofs.YtgoedcjjckdlpaaDoor.K
