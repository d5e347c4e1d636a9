import Derived.Test.YtebbaokcgnjfiaaXG1
set_option linter.unusedVariables false
set_option linter.unusedSimpArgs false
namespace Go.Proofs.Ytebbaokcgnjfiaa.F
open Go Go.RowKit Go.Proofs.Ytebbaokcgnjfiaa.K Go.Proofs.Ytebbaokcgnjfiaa.K.E
def okc (c : UInt8) : Prop := c ≠ 0 ∧ c ≠ 47
theorem u8ne {c : UInt8} {n : Nat} (hn : n < 256) (h : c ≠ UInt8.ofNat n) : ((c.toNat : Int) == (n : Int)) = false := by
  rw [beq_eq_false_iff_ne]
  intro e
  have e : c.toNat = n := by omega
  exact h (by rw [← e]; simp)
theorem take_ok {s : List UInt8} {i : Nat} {c : UInt8} (h : s[i]? = some c) (hc : okc c) (hl : s.length ≤ 9223372036854775806) : glob_reader_take s (i : Int) 0 [] = some (c, (s, (i : Int) + 1, 0)) := by
  have hi := (List.getElem?_eq_some_iff.1 h).1
  have h0 : ((c.toNat : Int) == 0) = false := u8ne (n := 0) (by decide) hc.1
  have h47 : ((c.toNat : Int) == 47) = false := u8ne (n := 47) (by decide) hc.2
  have hne : ((i : Int) == (s.length : Int)) = false := by rw [beq_eq_false_iff_ne]; omega
  unfold glob_reader_take
  rw [show ((0 : Int) != 0) = false from rfl]
  simp only [cond_false, hne, idx_ok h, Option.bind_some, h0, h47]
  rw [show ∀ (k : Bool → Option (UInt8 × ((List UInt8) × Int × Int))), bnd (some (.inl false)) k = k false from fun _ => rfl]
  simp only [cond_false]
  rw [show loopO (fun s_1 => glob_reader_take_l1 s (i : Int) 0 [] c s_1) (0 : Int) = some (.inl ()) from loop_end rfl]
  rw [wI ⟨by omega, by omega⟩]
  rfl
theorem esc_ok {s : List UInt8} {i : Nat} {c : UInt8} (h0 : s[i]? = some 92) (h : s[i + 1]? = some c) (hc : okc c) (hl : s.length ≤ 9223372036854775806) : glob_reader_escaped s (i : Int) 0 [] = some (c, (s, (i : Int) + 2, 0)) := by
  unfold glob_reader_escaped
  rw [take_ok h0 ⟨by decide, by decide⟩ hl]
  simp only [Option.bind_some]
  rw [show (((92 : UInt8).toNat : Int) == 92) = true from rfl]
  simp only [cond_true]
  have := take_ok h hc hl
  rw [show ((i + 1 : Nat) : Int) = (i : Int) + 1 by omega] at this
  rw [this]
  simp only [Option.bind_some]
  rw [show (i : Int) + 1 + 1 = (i : Int) + 2 by omega]
theorem byte1_ok {s : List UInt8} {i : Nat} {c : UInt8} (h0 : s[i]? = some 92) (h : s[i + 1]? = some c) (hc : okc c) (hl : s.length ≤ 9223372036854775806) : glob_reader_byte1 s (i : Int) 0 = some ((2, inB c), (s, (i : Int) + 2, 0)) := by
  unfold glob_reader_byte1
  rw [esc_ok h0 h hc hl]
  simp only [Option.bind_some]
  rw [put_eq]
  rfl
theorem more_ok {s : List UInt8} {i : Nat} {c : UInt8} (h : s[i]? = some c) (hc : c ≠ 47) : glob_reader_more s (i : Int) 0 = some (true, (s, (i : Int), 0)) := by
  have hi := (List.getElem?_eq_some_iff.1 h).1
  unfold glob_reader_more
  rw [show ((0 : Int) == 0) = true from rfl, show decide ((i : Int) < (s.length : Int)) = true from decide_eq_true (by omega)]
  simp only [cond_true, idx_ok h, Option.bind_some]
  have h47 : ((c.toNat : Int) == 47) = false := u8ne (n := 47) (by decide) hc
  rw [show ((c.toNat : Int) != 47) = !((c.toNat : Int) == 47) from rfl, h47]
  rfl
theorem more_end (s : List UInt8) : glob_reader_more s (s.length : Int) 0 = some (false, (s, (s.length : Int), 0)) := by
  unfold glob_reader_more
  rw [show ((0 : Int) == 0) = true from rfl, show decide ((s.length : Int) < (s.length : Int)) = false from decide_eq_false (by omega)]
  rfl
theorem app1 {α : Type} {l : List α} {x : α} (h : l.length ≤ 1000) : app l [x] = some (l ++ [x]) := if_pos (by simp only [List.length_cons, List.length_nil]; omega)
theorem l1_byte {s : List UInt8} {i : Nat} {c : UInt8} {g : Bool} {ps : List TGlobPiece} (h0 : s[i]? = some 92) (h : s[i + 1]? = some c) (hc : okc c) (hl : s.length ≤ 9223372036854775806) (hp : ps.length ≤ 1000) :
    glob_reader_part_l1 s (i : Int) 0 g ps = some (.inl ((s, (i : Int) + 2, 0), (g, ps ++ [pcB c]))) := by
  unfold glob_reader_part_l1
  rw [more_ok h0 (by decide)]
  simp only [Option.bind_some, cond_true, idx_ok h0]
  rw [show (((92 : UInt8).toNat : Int) == 42) = false from rfl, show (((92 : UInt8).toNat : Int) == 63) = false from rfl, show (((92 : UInt8).toNat : Int) == 91) = false from rfl]
  simp only [cond_false, dup_eq, fork_same]
  rw [byte1_ok h0 h hc hl]
  simp only [Option.bind_some]
  rw [app1 hp]
  rfl
def starP : TGlobPiece := { f_kind := 0, f_in := (0, 0, 0, 0) }
theorem l1_star {s : List UInt8} {i : Nat} {g : Bool} {ps : List TGlobPiece} (h0 : s[i]? = some 42) (hl : s.length ≤ 9223372036854775806) (hp : ps.length ≤ 1000) :
    glob_reader_part_l1 s (i : Int) 0 g ps = some (.inl ((s, (i : Int) + 1, 0), (g, ps ++ [starP]))) := by
  have hi := (List.getElem?_eq_some_iff.1 h0).1
  unfold glob_reader_part_l1
  rw [more_ok h0 (by decide)]
  simp only [Option.bind_some, cond_true, idx_ok h0]
  rw [show (((42 : UInt8).toNat : Int) == 42) = true from rfl]
  simp only [cond_true, dup_eq, fork_same]
  unfold glob_reader_stars
  simp only [Option.bind_some]
  rw [app1 hp, wI ⟨by omega, by omega⟩]
  rfl
theorem l1_end {s : List UInt8} {g : Bool} {ps : List TGlobPiece} : glob_reader_part_l1 s (s.length : Int) 0 g ps = some (.inr (.inl ((s, (s.length : Int), 0), (g, ps)))) := by
  unfold glob_reader_part_l1
  rw [more_end]
  rfl
/-- A name with a backslash ahead of each byte. -/
def esc (a : List UInt8) : List UInt8 := a.flatMap fun c => [92, c]
theorem esc_len (a : List UInt8) : (esc a).length = 2 * a.length := by
  induction a with
  | nil => rfl
  | cons c a ih => show (92 :: c :: esc a).length = _; simp only [List.length_cons]; omega
/-- The loop over the pairs. -/
theorem loop_esc {s : List UInt8} (hl : s.length ≤ 9223372036854775806) {g : Bool} : ∀ (a pre post : List UInt8) (ps : List TGlobPiece), s = pre ++ esc a ++ post → (∀ c ∈ a, okc c) → ps.length + a.length ≤ 1000 →
    loopO (fun t => glob_reader_part_l1 t.1.1 t.1.2.1 t.1.2.2 t.2.1 t.2.2) ((s, (pre.length : Int), 0), (g, ps)) = loopO (fun t => glob_reader_part_l1 t.1.1 t.1.2.1 t.1.2.2 t.2.1 t.2.2) ((s, ((pre ++ esc a).length : Int), 0), (g, ps ++ a.map pcB))
  | [], pre, post, ps, hs, ha, hp => by simp [esc]
  | c :: a, pre, post, ps, hs, ha, hp => by
    have hc := ha c (List.mem_cons_self ..)
    have e : s = pre ++ 92 :: c :: (esc a ++ post) := by rw [hs]; simp [esc]
    have h0 : s[pre.length]? = some 92 := by rw [e]; simp
    have h1 : s[pre.length + 1]? = some c := by rw [e]; simp
    simp only [List.length_cons] at hp
    rw [loop_next (s := ((s, (pre.length : Int), 0), (g, ps))) (l1_byte (g := g) (ps := ps) h0 h1 hc hl (by omega))]
    have := loop_esc hl (g := g) a (pre ++ [92, c]) post (ps ++ [pcB c]) (by rw [e]; simp) (fun d hd => ha d (List.mem_cons_of_mem _ hd)) (by simp only [List.length_append, List.length_cons, List.length_nil]; omega)
    rw [show ((pre ++ [92, c]).length : Int) = (pre.length : Int) + 2 by simp] at this
    rw [this, show pre ++ [92, c] ++ esc a = pre ++ esc (c :: a) by simp [esc], show ps ++ [pcB c] ++ a.map pcB = ps ++ (c :: a).map pcB by simp]
end Go.Proofs.Ytebbaokcgnjfiaa.F
