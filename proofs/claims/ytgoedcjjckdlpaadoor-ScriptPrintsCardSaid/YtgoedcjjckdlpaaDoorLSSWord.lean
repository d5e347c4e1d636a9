/- Bytes as digits, texts as words. -/
import Derived.Test.YtgoedcjjckdlpaaDoorLSSDig
set_option linter.unusedVariables false
set_option linter.unusedSimpArgs false
namespace Go.Proofs.YtgoedcjjckdlpaaDoor.F
open Go Go.RowKit Go.Proofs.YtgoedcjjckdlpaaDoor.K

def h2x (c : UInt8) : List UInt8 := [dc (c.toNat / 16), dc (c.toNat % 16)]
theorem two_ok (c : UInt8) : ref27_two c = some (h2x c) := by
  have := c.toNat_lt
  unfold ref27_two
  rw [show (c / (16 : UInt8)).toNat = c.toNat / 16 from UInt8.toNat_div .., show (c % (16 : UInt8)).toNat = c.toNat % 16 from UInt8.toNat_mod .., idx_ok (dc16 _ (by omega)), Option.bind_some, idx_ok (dc16 _ (by omega))]
  rfl
theorem hi4 (c : UInt8) : (shr8 c 4).toNat = c.toNat / 16 := by
  have := c.toNat_lt
  unfold shr8
  rw [UInt8.toNat_ofNat']
  show c.toNat / 2 ^ 4 % 256 = _
  omega
theorem lo4 (c : UInt8) : (c &&& (15 : UInt8)).toNat = c.toNat % 16 := by
  rw [UInt8.toNat_and]
  exact Nat.and_two_pow_sub_one_eq_mod c.toNat 4
theorem d16 {k : Nat} (h : k < 16) : idx ([48, 49, 50, 51, 52, 53, 54, 55, 56, 57, 97, 98, 99, 100, 101, 102] : List UInt8) (k : Int) = some (dc k) := idx_ok (dc16 k h)
theorem plain_eq (c : UInt8) : ref27_plain c = manifest_plain c := by
  unfold ref27_plain manifest_plain
  rw [show decide ((c.toNat : Int) ≥ 33) = decide ((c.toNat : Int) > 32) from by rw [Bool.eq_iff_iff, decide_eq_true_eq, decide_eq_true_eq]; omega, show decide ((c.toNat : Int) ≤ 126) = decide ((c.toNat : Int) < 127) from by rw [Bool.eq_iff_iff, decide_eq_true_eq, decide_eq_true_eq]; omega]
def q1 (c : UInt8) : List UInt8 := if manifest_plain c then [c] else 37 :: h2x c
theorem q1_len (c : UInt8) : (q1 c).length ≤ 3 := by unfold q1; split <;> simp [h2x]
/-- A text as a word. -/
def Qt (s : List UInt8) : List UInt8 := if s = [] then [37] else s.flatMap q1
theorem fold_flat {α β : Type} (f : α → List β) : ∀ (l : List α) (b : List β), l.foldl (fun b x => b ++ f x) b = b ++ l.flatMap f
  | [], b => by simp
  | x :: l, b => by rw [List.foldl_cons, fold_flat f l, List.flatMap_cons, List.append_assoc]
theorem flat_len {α β : Type} (f : α → List β) (n : Nat) : ∀ l : List α, (∀ x ∈ l, (f x).length ≤ n) → (l.flatMap f).length ≤ n * l.length
  | [], _ => by simp
  | x :: l, h => by
    rw [List.flatMap_cons, List.length_append, List.length_cons, Nat.mul_add]
    have := flat_len f n l (fun y hy => h y (by simp [hy]))
    have := h x (by simp)
    omega
theorem Qt_len (s : List UInt8) : (Qt s).length ≤ 3 * s.length + 1 := by
  unfold Qt
  split
  · simp
  · have := flat_len q1 3 s (fun x _ => q1_len x); omega
theorem drop_len_succ {α : Type} (l : List α) (t : Nat) (h : t < l.length) : (l.drop t).length = (l.drop (t + 1)).length + 1 := by rw [List.length_drop, List.length_drop]; omega
theorem Quote_ok (s : List UInt8) (h : s.length ≤ 1000000000) : manifest_Quote s = some (Qt s) := by
  unfold manifest_Quote Qt
  by_cases hs : s = []
  · subst hs; rfl
  · rw [show (s == []) = false from by simpa using hs, cond_false, if_neg hs]
    have := loop_fold s (fun s_1 => manifest_Quote_l1 s s_1.1 s_1.2) (fun b c => b ++ q1 c) id (fun b r => b.length + 3 * r.length ≤ 4000000000) ?_ ?_ s.length 0 [] (by omega) (by omega) (by simp; omega)
    · rw [this, List.drop_zero, fold_flat, List.nil_append]
      rfl
    · intro b t x hx hI
      have hlt := (List.getElem?_eq_some_iff.1 hx).1
      rw [drop_len_succ s t hlt] at hI
      have hq := q1_len x
      refine ⟨?_, by rw [List.length_append]; omega⟩
      have hxl := x.toNat_lt
      unfold manifest_Quote_l1 q1
      dsimp only
      rw [decide_eq_true (by omega), cond_true, idx_ok hx, Option.bind_some]
      cases hp : manifest_plain x
      · rw [cond_false, hi4, lo4, d16 (by omega), Option.bind_some, d16 (by omega), Option.bind_some, app_ok (by simp; omega)]
        rfl
      · rw [cond_true, app_ok (by simp; omega)]
        rfl
    · intro b _
      unfold manifest_Quote_l1
      dsimp only
      rw [decide_eq_false (by omega)]
      rfl
theorem refQuote_ok (s : List UInt8) (h : s.length ≤ 1000000000) : ref27_Quote s = some (Qt s) := by
  unfold ref27_Quote Qt
  by_cases hs : s = []
  · subst hs; rfl
  · rw [show (s == []) = false from by simpa using hs, cond_false, if_neg hs]
    have := loop_fold s (fun s_1 => ref27_Quote_l1 s s_1.1 s_1.2) (fun b c => b ++ q1 c) id (fun b r => b.length + 3 * r.length ≤ 4000000000) ?_ ?_ s.length 0 [] (by omega) (by omega) (by simp; omega)
    · rw [this, List.drop_zero, fold_flat, List.nil_append]
      rfl
    · intro b t x hx hI
      have hlt := (List.getElem?_eq_some_iff.1 hx).1
      rw [drop_len_succ s t hlt] at hI
      have hq := q1_len x
      refine ⟨?_, by rw [List.length_append]; omega⟩
      unfold ref27_Quote_l1 q1
      dsimp only
      rw [decide_eq_true (by omega), cond_true, idx_ok hx, Option.bind_some, plain_eq]
      cases hp : manifest_plain x
      · rw [cond_false, app_ok (by simp; omega), Option.bind_some, two_ok, Option.bind_some, app_ok (by simp [h2x]; omega), List.append_assoc]
        rfl
      · rw [cond_true, app_ok (by simp; omega)]
        rfl
    · intro b _
      unfold ref27_Quote_l1
      dsimp only
      rw [decide_eq_false (by omega)]
      rfl
theorem hex_len (x : List UInt8) : (x.flatMap h2x).length = 2 * x.length := by
  induction x with
  | nil => rfl
  | cons c x ih => rw [List.flatMap_cons, List.length_append, ih, List.length_cons]; simp [h2x]; omega
def hexS (x : List UInt8) : List UInt8 := if x = [] then [45] else x.flatMap h2x
theorem hexS_len (x : List UInt8) : (hexS x).length ≤ 2 * x.length + 1 := by
  unfold hexS
  split
  · simp
  · rw [hex_len]; omega
theorem hex_loop (x : List UInt8) (hx : x.length ≤ 1000000000) : ∀ k t (a : Bool) (b : List UInt8), x.length - t = k → t ≤ x.length → b.length ≤ 2 * t → ∃ a', loopO (fun s => script_hex_l1 x s.1 s.2.1 s.2.2) (a, b, t) = some (a', b ++ (x.drop t).flatMap h2x) := by
  intro k
  induction k with
  | zero =>
    intro t a b h1 h2 h3
    refine ⟨a, loop_end ?_⟩
    show script_hex_l1 x a b t = _
    unfold script_hex_l1
    rw [decide_eq_false (by omega), List.drop_eq_nil_of_le (by omega)]
    simp
  | succ k ih =>
    intro t a b h1 h2 h3
    have hlt : t < x.length := by omega
    obtain ⟨a', h⟩ := ih (t + 1) true (b ++ h2x x[t]) (by omega) (by omega) (by rw [List.length_append, show (h2x x[t]).length = 2 from rfl]; omega)
    refine ⟨a', (loop_next (s' := (true, b ++ h2x x[t], t + 1)) ?_).trans (h.trans ?_)⟩
    · show script_hex_l1 x a b t = _
      have hxl := (x[t]).toNat_lt
      unfold script_hex_l1
      rw [decide_eq_true (by omega), cond_true, List.getElem?_eq_getElem hlt, Option.bind_some, hi4, lo4, d16 (by omega), Option.bind_some, d16 (by omega)]
      unfold strings_Builder_WriteByte
      dsimp only
      rw [app_ok (by rw [List.length_cons, List.length_nil]; omega), Option.bind_some, Option.bind_some, Option.bind_some]
      dsimp only
      rw [app_ok (by simp only [List.length_append, List.length_cons, List.length_nil]; omega), Option.bind_some, Option.bind_some, List.append_assoc]
      rfl
    · rw [List.drop_eq_getElem_cons hlt, List.flatMap_cons, List.append_assoc]
theorem hex_ok (x : List UInt8) (h : x.length ≤ 1000000000) : script_hex x = some (hexS x) := by
  unfold script_hex hexS
  by_cases hx : x = []
  · subst hx; rfl
  · have hl : x.length ≠ 0 := fun e => hx (List.eq_nil_of_length_eq_zero e)
    rw [show ((x.length : Int) == 0) = false from by rw [beq_eq_false_iff_ne]; omega, cond_false, if_neg hx]
    obtain ⟨a', h1⟩ := hex_loop x h x.length 0 false [] (by omega) (by omega) (by simp)
    rw [h1, List.drop_zero, List.nil_append]
    rfl
theorem refhex_ok (x : List UInt8) (h : x.length ≤ 1000000000) : ref31_hex x = some (hexS x) := by
  unfold ref31_hex hexS
  by_cases hx : x = []
  · subst hx; rfl
  · have hl : x.length ≠ 0 := fun e => hx (List.eq_nil_of_length_eq_zero e)
    rw [show ((x.length : Int) == 0) = false from by rw [beq_eq_false_iff_ne]; omega, cond_false, if_neg hx]
    have := loop_fold x (fun s_1 => ref31_hex_l1 x s_1.1 s_1.2) (fun b c => b ++ h2x c) id (fun b r => b.length + 2 * r.length ≤ 100000000000) ?_ ?_ x.length 0 [] (by omega) (by omega) (by simp; omega)
    · rw [this, List.drop_zero, fold_flat, List.nil_append]
      rfl
    · intro b t c hc hI
      have hlt := (List.getElem?_eq_some_iff.1 hc).1
      rw [drop_len_succ x t hlt] at hI
      refine ⟨?_, by rw [List.length_append, show (h2x c).length = 2 from rfl]; omega⟩
      have hcl := c.toNat_lt
      unfold ref31_hex_l1
      dsimp only
      rw [decide_eq_true (by omega), cond_true, hc, Option.bind_some, show (c / (16 : UInt8)).toNat = c.toNat / 16 from UInt8.toNat_div .., show (c % (16 : UInt8)).toNat = c.toNat % 16 from UInt8.toNat_mod .., d16 (by omega), Option.bind_some, d16 (by omega), Option.bind_some, app_ok (by simp; omega)]
      rfl
    · intro b _
      unfold ref31_hex_l1
      dsimp only
      rw [decide_eq_false (by omega)]
      rfl
end Go.Proofs.YtgoedcjjckdlpaaDoor.F
