/- Texts in one: XDB0. -/
import Derived.Test.YtkleajhiihbefaaGreatDoorBK7
import Derived.Test.YtkleajhiihbefaaGreatDoorBK8
import Derived.Test.YtkleajhiihbefaaGreatDoorBK9
set_option linter.unusedVariables false
set_option linter.unusedSimpArgs false
set_option linter.unusedSectionVars false
namespace Go.Proofs.YtkleajhiihbefaaGreatDoor.F
open Go Go.RowKit Go.Proofs.YtkleajhiihbefaaGreatDoor.K Go.Proofs.YtkleajhiihbefaaGreatDoor.K.E
theorem dT {p : Prop} [Decidable p] (h : p) : decide p = true := decide_eq_true h
theorem dF {p : Prop} [Decidable p] (h : ¬ p) : decide p = false := decide_eq_false h
theorem w1 {n : Nat} (h : n ≤ 100000000000) : IntKind.i64.wrap ((n : Int) + 1) = ((n + 1 : Nat) : Int) := by rw [w64 (by omega)]; rfl
theorem wI' {x : Int} (h : -9223372036854775808 ≤ x ∧ x ≤ 9223372036854775807) : IntKind.i64.wrap x = x := w64 h
theorem app_one {α : Type} {l : List α} {x : α} (h : l.length ≤ 100000000) : app l [x] = some (l ++ [x]) := app_ok (by simp only [List.length_cons, List.length_nil]; omega)
theorem bI {σ ρ : Type} (s : σ) (k : σ → Option ρ) : bnd (some (.inl s)) k = k s := rfl
theorem bR {ρ σ : Type} (r : ρ) (k : σ → Option ρ) : bnd (some (.inr r)) k = some r := rfl
theorem ix_none {c : UInt8} : ∀ {l : List UInt8}, c ∉ l → Lib.indexByte l c = -1
 | [], _ => rfl
 | b :: l, h => by
  have h1 : (b == c) = false := by
   cases hb : b == c with
   | false => rfl
   | true => exact absurd (by rw [eq_of_beq hb]; exact List.mem_cons_self ..) h
  unfold Lib.indexByte
  rw [ix_none (fun hm => h (List.mem_cons_of_mem _ hm))]
  simp [h1]
theorem ix_some {c : UInt8} : ∀ {l : List UInt8}, c ∈ l → 0 ≤ Lib.indexByte l c ∧ Lib.indexByte l c < l.length
 | b :: l, h => by
  unfold Lib.indexByte
  by_cases h1 : b == c
  ·simp [h1]
  ·have hm : c ∈ l := by
    rcases List.mem_cons.1 h with e | e
    ·exact absurd (by rw [e]; simp) h1
    ·exact e
   obtain ⟨h2, h3⟩ := ix_some hm
   have : ¬ (Lib.indexByte l c == -1) = true := by simp; omega
   simp [h1, this]
   omega
theorem ix_neg {l : List UInt8} {c : UInt8} : decide (Lib.indexByte l c < 0) = !l.contains c := by
 by_cases h : c ∈ l
 ·have := ix_some h
  rw [dF (by omega)]
  simp [h]
 ·rw [ix_none h]
  simp [h]
theorem ix_pre {c : UInt8} : ∀ {a b : List UInt8}, c ∉ a → Lib.indexByte (a ++ c :: b) c = (a.length : Int)
 | [], b, _ => by simp [Lib.indexByte]
 | x :: a, b, h => by
  have h1 : (x == c) = false := by
   cases hb : x == c with
   | false => rfl
   | true => exact absurd (by rw [eq_of_beq hb]; exact List.mem_cons_self ..) h
  have ih := ix_pre (c := c) (a := a) (b := b) (fun hm => h (List.mem_cons_of_mem _ hm))
  rw [List.cons_append]
  unfold Lib.indexByte
  rw [ih]
  have : ¬ ((a.length : Int) == -1) = true := by simp
  simp [h1, this]
theorem sIx_eq (s : List UInt8) (c : UInt8) : strings_IndexByte s c = some (Lib.indexByte s c) := rfl
def spl : List UInt8 → List (List UInt8)
 | [] => [[]]
 | c :: s => if c = 47 then [] :: spl s else match spl s with
  | [] => [[c]]
  | p :: r => (c :: p) :: r
theorem spl_cons (c : UInt8) (s : List UInt8) : spl (c :: s) = if c = 47 then [] :: spl s else match spl s with
  | [] => [[c]]
  | p :: r => (c :: p) :: r := rfl
theorem spl_ne (s : List UInt8) : spl s ≠ [] := by
 cases s with
 | nil => simp [spl]
 | cons c s =>
  unfold spl
  split
  ·simp
  ·split <;> simp
theorem spl_none : ∀ {a : List UInt8}, (47 : UInt8) ∉ a → spl a = [a]
 | [], _ => rfl
 | c :: s, h => by
  have hc : c ≠ 47 := fun e => h (by rw [e]; exact List.mem_cons_self ..)
  unfold spl
  rw [if_neg hc, spl_none (fun hm => h (List.mem_cons_of_mem _ hm))]
theorem spl_pre : ∀ {a b : List UInt8}, (47 : UInt8) ∉ a → spl (a ++ 47 :: b) = a :: spl b
 | [], b, _ => by rw [List.nil_append]; conv => lhs; unfold spl; rw [if_pos rfl]
 | c :: s, b, h => by
  have hc : c ≠ 47 := fun e => h (by rw [e]; exact List.mem_cons_self ..)
  rw [List.cons_append, spl_cons, if_neg hc, spl_pre (fun hm => h (List.mem_cons_of_mem _ hm))]
theorem spl_len : ∀ s : List UInt8, (spl s).length = s.count 47 + 1
 | [] => rfl
 | c :: s => by
  have ih := spl_len s
  unfold spl
  by_cases hc : c = 47
  ·rw [if_pos hc, hc, List.length_cons, ih]; simp
  ·rw [if_neg hc]
   split
   ·rename_i e; exact absurd e (spl_ne s)
   ·rename_i p r e
    rw [e] at ih
    rw [List.length_cons] at ih ⊢
    rw [ih, List.count_cons_of_ne (fun h => hc h)]
theorem cut47 (s : List UInt8) (h : (47 : UInt8) ∈ s) : ∃ a b, s = a ++ 47 :: b ∧ (47 : UInt8) ∉ a := by
 obtain ⟨a, b, h1, h2⟩ := List.append_of_mem h |> fun ⟨x, y, e⟩ => (⟨_, _, e, trivial⟩ : ∃ x y, s = x ++ 47 :: y ∧ True)
 clear h2 h1 a b
 induction s with
 | nil => cases h
 | cons c s ih =>
  by_cases hc : c = 47
  ·subst hc; exact ⟨[], s, rfl, by simp⟩
  ·have hm : (47 : UInt8) ∈ s := by
    rcases List.mem_cons.1 h with e | e
    ·exact absurd e.symm hc
    ·exact e
   obtain ⟨a, b, e1, e2⟩ := ih hm
   exact ⟨c :: a, b, by rw [e1]; rfl, fun hx => by
    rcases List.mem_cons.1 hx with e | e
    ·exact hc e.symm
    ·exact e2 e⟩
theorem strings_Index_eq (s : List UInt8) : strings_Index s = some (Lib.indexByte s 47) := by
 unfold strings_Index internal_stringslite_Index internal_stringslite_IndexByte ixb
 by_cases h : ([47] : List UInt8) == s
 ·have := eq_of_beq h
  subst this
  rfl
 ·simp [h]
theorem strings_Split_eq {s : List UInt8} (hl : s.length ≤ 1000000) : strings_Split s = some (spl s) := by
 have hcnt : s.count 47 ≤ s.length := List.count_le_length
 have hn := spl_len s

 have loop : ∀ (n : Nat) (b : List UInt8) (done : List (List UInt8)) (k : Nat), b.count 47 = n → b.length ≤ s.length → k = done.length → k + n = s.count 47 → loopO (fun t : List UInt8 × List (List UInt8) × Int => strings_genSplit_l1 s 0 ((s.count 47 + 1 : Nat) : Int) t.1 t.2.1 t.2.2) (b, done ++ List.replicate (n + 1) ([] : List UInt8), (k : Int)) =
   some (.inl (((spl b).getLast (spl_ne b)), done ++ (spl b).dropLast ++ [[]], ((s.count 47 : Nat) : Int))) := by
  intro n
  induction n with
  | zero =>
   intro b done k h1 h2 h3 h4
   have hb : (47 : UInt8) ∉ b := List.count_eq_zero.1 h1
   have e := spl_none hb
   refine loop_end ?_
   unfold strings_genSplit_l1
   simp only [e, List.getLast_singleton, List.dropLast_singleton, List.append_nil, List.replicate_one, Nat.zero_add]
   rw [wI' (x := (s.length : Int) + 1) (by omega), wI' (x := (if (s.length : Int) + 1 < ((s.count 47 + 1 : Nat) : Int) then (s.length : Int) + 1 else ((s.count 47 + 1 : Nat) : Int)) - 1) (by split <;> omega), if_neg (by omega), dF (by omega)]
   simp only [cond_false]
   have hk : (k : Int) = ((s.count 47 : Nat) : Int) := by omega
   rw [hk]
  | succ n ih =>
   intro b done k h1 h2 h3 h4
   have hb : (47 : UInt8) ∈ b := List.count_pos_iff.1 (by omega)
   obtain ⟨a, r, rfl, ha⟩ := cut47 b hb
   have hca : a.count 47 = 0 := List.count_eq_zero.2 ha
   have hcr : r.count 47 = n := by
    rw [List.count_append, hca, List.count_cons_self] at h1; omega
   have hix := ix_pre (b := r) ha
   have hlen : (a ++ 47 :: r).length = a.length + 1 + r.length := by simp; omega
   rw [hlen] at h2
   have hset : (done ++ List.replicate (n + 1 + 1) ([] : List UInt8)).set k a = (done ++ [a]) ++ List.replicate (n + 1) [] := by
    rw [h3, List.set_append_right _ _ (Nat.le_refl _), Nat.sub_self, List.replicate_succ, List.set_cons_zero, List.append_assoc, List.singleton_append]
   have hget : idx (done ++ List.replicate (n + 1 + 1) ([] : List UInt8)) (k : Int) = some [] := by
    refine idx_ok ?_
    rw [h3, List.getElem?_append_right (Nat.le_refl _), Nat.sub_self]
    rfl
   have hbody : strings_genSplit_l1 s 0 ((s.count 47 + 1 : Nat) : Int) (a ++ 47 :: r) (done ++ List.replicate (n + 1 + 1) ([] : List UInt8)) (k : Int) = some (.inl (r, (done ++ [a]) ++ List.replicate (n + 1) [], ((k + 1 : Nat) : Int))) := by
    unfold strings_genSplit_l1
    rw [wI' (x := (s.length : Int) + 1) (by omega), wI' (x := (if (s.length : Int) + 1 < ((s.count 47 + 1 : Nat) : Int) then (s.length : Int) + 1 else ((s.count 47 + 1 : Nat) : Int)) - 1) (by split <;> omega), if_neg (by omega), dT (by omega), strings_Index_eq, hix]
    simp only [cond_true, Option.bind_some]
    rw [dF (by omega)]
    simp only [cond_false, Int.add_zero]
    rw [wI' (x := (a.length : Int)) (by omega), w1 (by omega), w1 (by omega), slc_ok (by rw [hlen]; omega), slc_ok (by rw [hlen]; omega)]
    simp only [Option.bind_some, hget, Int.toNat_natCast, Int.toNat_zero, List.drop_zero]
    have e1 : (a ++ 47 :: r).take a.length = a := List.take_left
    have e2 : ((a ++ 47 :: r).take (a ++ 47 :: r).length).drop (a.length + 1) = r := by
     rw [List.take_length, ← List.drop_drop, List.drop_left]; rfl
    rw [e1, e2, hset]
   rw [loop_next hbody, ih r (done ++ [a]) (k + 1) hcr (by omega) (by simp [h3]) (by omega)]
   have hsp := spl_pre (b := r) ha
   congr 3
   ·simp only [hsp]
    rw [List.getLast_cons (spl_ne r)]
   ·congr 1
    simp only [hsp]
    rw [List.dropLast_cons_of_ne_nil (spl_ne r)]
    simp
 unfold strings_Split strings_genSplit strings_Count ctb
 simp only [Int.reduceNeg, Option.bind_some]
 rw [show ((-1 : Int) == 0) = false from rfl]
 simp only [cond_false]
 rw [dT (by omega)]
 simp only [cond_true]
 rw [w1 (by omega), bI, if_neg (by rw [w1 (by omega)]; omega)]
 have hmk : mkz 16 ([] : List UInt8) ((s.count 47 + 1 : Nat) : Int) = some (List.replicate (s.count 47 + 1) []) := by
  unfold mkz
  rw [dT (by omega), dT (by omega)]
  simp
 rw [hmk]
 simp only [Option.bind_some]
 have hl0 := loop (s.count 47) s [] 0 rfl (Nat.le_refl _) rfl (by omega)
 simp only [List.nil_append] at hl0
 rw [show (((0 : Nat) : Int)) = 0 from rfl] at hl0
 rw [hl0, bI]
 have hdl : (spl s).dropLast.length = s.count 47 := by rw [List.length_dropLast, hn]; rfl
 simp only
 rw [show ((spl s).dropLast ++ [([] : List UInt8)]) = (spl s).dropLast ++ [[]] from rfl]
 have hg : idx ((spl s).dropLast ++ [([] : List UInt8)]) ((s.count 47 : Nat) : Int) = some [] := idx_ok (by rw [List.getElem?_append_right (by omega), hdl, Nat.sub_self]; rfl)
 rw [hg]
 simp only [Option.bind_some, Int.toNat_natCast]
 rw [w1 (by omega), show ((spl s).dropLast ++ [([] : List UInt8)]).set (s.count 47) ((spl s).getLast (spl_ne s)) = spl s from by
  rw [List.set_append_right _ _ (by omega), hdl, Nat.sub_self, List.set_cons_zero, List.dropLast_concat_getLast]]
 rw [slc_ok (by rw [hn]; omega)]
 simp only [Option.bind_some, Int.toNat_natCast, Int.toNat_zero, List.drop_zero]
 rw [← hn, List.take_length]
end Go.Proofs.YtkleajhiihbefaaGreatDoor.F
namespace Go.Proofs.YtkleajhiihbefaaGreatDoor.F
open Go Go.RowKit Go.Proofs.YtkleajhiihbefaaGreatDoor.K Go.Proofs.YtkleajhiihbefaaGreatDoor.K.E
def firstQ {α ρ : Type} (q : Nat → α → Option ρ) : Nat → List α → Option ρ
 | _, [] => none
 | n, x :: l => match q n x with
  | some r => some r
  | none => firstQ q (n + 1) l
theorem firstQ_none {α ρ : Type} {q : Nat → α → Option ρ} : ∀ {l : List α} {n : Nat}, firstQ q n l = none ↔ ∀ t x, l[t]? = some x → q (n + t) x = none
 | [], n => by simp [firstQ]
 | x :: l, n => by
  unfold firstQ
  constructor
  ·intro h t y hy
   cases hq : q n x with
   | some r => rw [hq] at h; cases h
   | none =>
    rw [hq] at h
    cases t with
    | zero => simp at hy; subst hy; exact hq
    | succ t => have := firstQ_none.1 h t y (by simpa using hy); rwa [show n + (t + 1) = n + 1 + t by omega]
  ·intro h
   have h0 : q n x = none := h 0 x (by simp)
   rw [h0]
   exact firstQ_none.2 fun t y hy => by have := h (t + 1) y (by simpa using hy); rwa [show n + (t + 1) = n + 1 + t by omega] at this
theorem firstQ_some {α ρ : Type} {q : Nat → α → Option ρ} {r : ρ} : ∀ {l : List α} {n : Nat}, firstQ q n l = some r → ∃ t x, l[t]? = some x ∧ q (n + t) x = some r
 | [], n, h => by cases h
 | x :: l, n, h => by
  unfold firstQ at h
  cases hq : q n x with
  | some r' => rw [hq] at h; cases h; exact ⟨0, x, by simp, hq⟩
  | none =>
   rw [hq] at h
   obtain ⟨t, y, h1, h2⟩ := firstQ_some h
   exact ⟨t + 1, y, by simpa using h1, by rwa [show n + (t + 1) = n + 1 + t by omega]⟩
theorem loop_first {α S ρ : Type} (l : List α) (body : S → Option (Sum S ρ)) (e : Nat → S) (q : Nat → α → Option ρ) (fin : ρ)
  (hs : ∀ t x, l[t]? = some x → body (e t) = some (match q t x with | some r => .inr r | none => .inl (e (t + 1)))) (he : body (e l.length) = some (.inr fin)) : loopO body (e 0) = some ((firstQ q 0 l).getD fin) := by
 have : ∀ n t, l.length - t = n → t ≤ l.length → loopO body (e t) = some ((firstQ q t (l.drop t)).getD fin) := by
  intro n
  induction n with
  | zero =>
   intro t h1 h2
   have : t = l.length := by omega
   subst this
   rw [loop_end he, List.drop_length]
   rfl
  | succ n ih =>
   intro t h1 h2
   have hlt : t < l.length := by omega
   have h3 := hs t _ (List.getElem?_eq_getElem hlt)
   rw [List.drop_eq_getElem_cons hlt]
   unfold firstQ
   cases hq : q t l[t] with
   | some r => rw [hq] at h3; rw [loop_end h3]; rfl
   | none => rw [hq] at h3; rw [loop_next h3, ih (t + 1) (by omega) (by omega)]
 have h := this l.length 0 (by omega) (Nat.zero_le _)
 rwa [List.drop_zero] at h
theorem loop_inv {S ρ : Type} {body : S → Option (Sum S ρ)} (n : Nat) (I : Nat → S → Prop) (P : ρ → Prop) (hs : ∀ t s, t < n → I t s → (∃ s', body s = some (.inl s') ∧ I (t + 1) s') ∨ ∃ r, body s = some (.inr r) ∧ P r) (he : ∀ s, I n s → ∃ r, body s = some (.inr r) ∧ P r) :
  ∀ {s : S}, I 0 s → ∃ r, loopO body s = some r ∧ P r := by
 have : ∀ m t s, n - t = m → t ≤ n → I t s → ∃ r, loopO body s = some r ∧ P r := by
  intro m
  induction m with
  | zero =>
   intro t s h1 h2 h3
   have : t = n := by omega
   subst this
   obtain ⟨r, h4, h5⟩ := he s h3
   exact ⟨r, loop_end h4, h5⟩
  | succ m ih =>
   intro t s h1 h2 h3
   rcases hs t s (by omega) h3 with ⟨s', h4, h5⟩ | ⟨r, h4, h5⟩
   ·rw [loop_next h4]; exact ih (t + 1) s' (by omega) (by omega) h5
   ·exact ⟨r, loop_end h4, h5⟩
 intro s h
 exact this n 0 s (by omega) (Nat.zero_le _) h
theorem lt_of_get {α : Type} {l : List α} {t : Nat} {x : α} (h : l[t]? = some x) : t < l.length := (List.getElem?_eq_some_iff.1 h).1
theorem mem_of_get {α : Type} {l : List α} {t : Nat} {x : α} (h : l[t]? = some x) : x ∈ l := List.mem_of_getElem? h
def ixI {α : Type} (p : α → Bool) (l : List α) : Int := (firstQ (fun t x => if p x then some (t : Int) else none) 0 l).getD (-1)
theorem ixI_neg {α : Type} {p : α → Bool} {l : List α} (h : ∀ x ∈ l, p x = false) : ixI p l = -1 := by
 unfold ixI
 rw [firstQ_none.2 fun t x hx => by simp [h x (mem_of_get hx)]]
 rfl
theorem ixI_pos {α : Type} {p : α → Bool} {l : List α} (h : ixI p l ≠ -1) : ∃ (t : Nat) (x : α), ixI p l = (t : Int) ∧ l[t]? = some x ∧ p x = true := by
 unfold ixI at h ⊢
 cases hf : firstQ (fun t x => if p x then some (t : Int) else none) 0 l with
 | none => rw [hf] at h; exact absurd rfl h
 | some r =>
  obtain ⟨t, x, h1, h2⟩ := firstQ_some hf
  by_cases hp : p x
  ·rw [if_pos hp] at h2
   cases h2
   exact ⟨0 + t, x, rfl, by rwa [Nat.zero_add], hp⟩
  ·rw [if_neg hp] at h2; cases h2
theorem loop_ix {α S : Type} (l : List α) (body : S → Option (Sum S (Sum Unit Int))) (e : Nat → S) (p : α → Bool)
  (hs : ∀ t x, l[t]? = some x → body (e t) = some (if p x then .inr (.inr (t : Int)) else .inl (e (t + 1)))) (he : body (e l.length) = some (.inr (.inl ()))) : bnd (loopO body (e 0)) (fun _ => some (-1)) = some (ixI p l) := by
 rw [loop_first l body e (fun t x => if p x then some (.inr (t : Int)) else none) (.inl ()) (fun t x hx => by rw [hs t x hx]; cases p x <;> rfl) he]
 have : ∀ n, firstQ (fun t x => if p x then some (Sum.inr (t : Int) : Sum Unit Int) else none) n l = (firstQ (fun t x => if p x then some (t : Int) else none) n l).map .inr := by
  clear hs he
  induction l with
  | nil => intro n; rfl
  | cons x l ih =>
   intro n
   unfold firstQ
   cases p x with
   | true => rfl
   | false => exact ih (n + 1)
 rw [this 0]
 unfold ixI
 cases firstQ (fun t x => if p x then some (t : Int) else none) 0 l <;> rfl
def vN (s : List UInt8) : Bool := s != [] && (decide ((s.length : Int) ≤ 255) && (s != [46] && (s != [46, 46] && (!s.contains 47 && !s.contains 0))))
theorem cond_and {b : Bool} {x : Option Bool} {c : Bool} (h : b = true → x = some c) : cond b x (some false) = some (b && c) := by
 cases b with
 | true => exact h rfl
 | false => rfl
theorem name_Valid_eq (s : List UInt8) : name_Valid s = some (vN s) := by
 unfold name_Valid vN
 refine cond_and fun _ => cond_and fun _ => cond_and fun _ => cond_and fun _ => ?_
 rw [sIx_eq, sIx_eq]
 simp only [Option.bind_some, ix_neg]
 cases s.contains 47 <;> rfl
theorem IndexFunc_str {l : List (List UInt8)} (hl : l.length ≤ 100000000000) : slices_IndexFunc_string l = some (ixI (fun x => !vN x) l) := by
 unfold slices_IndexFunc_string
 refine loop_ix l _ (fun t => (t : Int)) _ (fun t x hx => ?_) ?_
 ·have := lt_of_get hx
  unfold slices_IndexFunc_string_l1 tree_path_1
  rw [dT (by omega), idx_ok hx, cond_true, Option.bind_some, name_Valid_eq, Option.bind_some, Option.bind_some, w1 (by omega)]
  cases vN x <;> rfl
 ·unfold slices_IndexFunc_string_l1
  rw [dF (by omega)]
  rfl
def PathOk (x : List UInt8) (k : Int) : Prop := (x = [] ∧ k = 2) ∨ (x ≠ [] ∧ x.length ≤ 4096 ∧ (∀ p ∈ spl x, vN p = true) ∧ (spl x).length ≤ 64)
theorem tree_path_good {x : List UInt8} {x1 x2 x3 x4 x5 x6 x7 x8 x9 x10} (h : PathOk x x1) : tree_path x x1 x2 x3 x4 x5 x6 x7 x8 x9 x10 = some 0 := by
 unfold tree_path
 rcases h with ⟨rfl, rfl⟩ | ⟨h1, h2, h3, h4⟩
 ·rfl
 ·have e1 : (x == ([] : List UInt8)) = false := by simpa using h1
  rw [e1, dF (by omega)]
  simp only [cond_false]
  rw [strings_Split_eq (by omega), Option.bind_some]
  unfold slices_ContainsFunc_string
  rw [IndexFunc_str (by omega), ixI_neg fun p hp => by simp [h3 p hp]]
  simp only [Option.bind_some]
  rw [dF (by omega), dF (by omega), dF (by omega)]
  rfl
def upP : List UInt8 → List UInt8
 | [] => []
 | c :: s => if (47 : UInt8) ∈ s then c :: upP s else []
theorem upP_none {x : List UInt8} (h : (47 : UInt8) ∉ x) : upP x = [] := by
 cases x with
 | nil => rfl
 | cons c s => unfold upP; rw [if_neg fun hm => h (List.mem_cons_of_mem _ hm)]
theorem upP_cut : ∀ {a b : List UInt8}, (47 : UInt8) ∉ b → upP (a ++ 47 :: b) = a
 | [], b, h => by rw [List.nil_append]; unfold upP; rw [if_neg h]
 | c :: a, b, h => by rw [List.cons_append]; unfold upP; rw [if_pos (by simp), upP_cut h]
theorem cutR : ∀ {s : List UInt8}, (47 : UInt8) ∈ s → ∃ a b, s = a ++ 47 :: b ∧ (47 : UInt8) ∉ b
 | c :: s, h => by
  by_cases hm : (47 : UInt8) ∈ s
  ·obtain ⟨a, b, e, hb⟩ := cutR hm
   exact ⟨c :: a, b, by rw [e]; rfl, hb⟩
  ·rcases List.mem_cons.1 h with e | e
   ·exact ⟨[], s, by rw [← e]; rfl, hm⟩
   ·exact absurd e hm
theorem loop_dn {ρ : Type} (x : List UInt8) (body : Int → Option (Sum Int (Sum Unit ρ))) (g : Nat → ρ) (hs : ∀ (t : Nat) (c : UInt8), x[t]? = some c → body (t : Int) = some (if c = 47 then .inr (.inr (g t)) else .inl ((t : Int) - 1))) (he : body (-1) = some (.inr (.inl ()))) :
  (∀ a b, x = a ++ 47 :: b → (47 : UInt8) ∉ b → loopO body ((x.length : Int) - 1) = some (.inr (g a.length))) ∧ ((47 : UInt8) ∉ x → loopO body ((x.length : Int) - 1) = some (.inl ())) := by
 constructor
 ·intro a b hx hb
  have : ∀ n, n ≤ b.length → loopO body ((a.length + n : Nat) : Int) = some (.inr (g a.length)) := by
   intro n
   induction n with
   | zero =>
    intro _
    refine loop_end ?_
    rw [hs (a.length + 0) 47 (by rw [hx]; simp), if_pos rfl]
    rfl
   | succ n ih =>
    intro hn
    have hc : x[a.length + (n + 1)]? = some b[n] := by rw [hx, List.getElem?_append_right (by omega), show a.length + (n + 1) - a.length = n + 1 by omega, List.getElem?_cons_succ, List.getElem?_eq_getElem]
    have hne : b[n] ≠ 47 := fun e => hb (e ▸ List.getElem_mem _)
    have hb1 := hs _ _ hc
    rw [if_neg hne] at hb1
    rw [loop_next hb1, ← ih (by omega)]
    congr 1
    omega
  rw [← this b.length (Nat.le_refl _)]
  congr 1
  rw [hx, List.length_append, List.length_cons]
  omega
 ·intro hn
  have : ∀ n, n ≤ x.length → loopO body ((n : Int) - 1) = some (.inl ()) := by
   intro n
   induction n with
   | zero => intro _; exact loop_end he
   | succ n ih =>
    intro h
    have hc : x[n]? = some x[n] := List.getElem?_eq_getElem _
    have hne : x[n] ≠ 47 := fun e => hn (e ▸ List.getElem_mem _)
    have hb1 := hs _ _ hc
    rw [if_neg hne] at hb1
    rw [show ((n + 1 : Nat) : Int) - 1 = (n : Int) by omega, loop_next hb1, ih (by omega)]
  exact this x.length (Nat.le_refl _)
theorem u8_47 (c : UInt8) : ((c.toNat : Int) == 47) = decide (c = 47) := by
 by_cases h : c = 47
 ·subst h; rfl
 ·have : ¬ c.toNat = 47 := fun e => h (UInt8.toNat_inj.1 e)
  simp [h]; omega
theorem u8_0 (c : UInt8) : ((c.toNat : Int) == 0) = decide (c = 0) := by
 by_cases h : c = 0
 ·subst h; rfl
 ·have : ¬ c.toNat = 0 := fun e => h (UInt8.toNat_inj.1 e)
  simp [h]; omega
theorem LastIndex_eq {x : List UInt8} (hl : x.length ≤ 100000000000) : strings_LastIndexByte x 47 = some (if (47 : UInt8) ∈ x then ((upP x).length : Int) else -1) := by
 unfold strings_LastIndexByte internal_bytealg_LastIndexByteString
 rw [wI' (by omega)]
 obtain ⟨h1, h2⟩ := loop_dn x (fun s => internal_bytealg_LastIndexByteString_l1 x 47 s) (fun t => (t : Int)) (fun t c hc => by
  have := lt_of_get hc
  unfold internal_bytealg_LastIndexByteString_l1
  rw [dT (by omega), idx_ok hc, cond_true, Option.bind_some, show (((47 : UInt8).toNat : Int)) = 47 from rfl, u8_47, wI' (by omega)]
  by_cases h : c = 47
  ·rw [dT h, if_pos h]; rfl
  ·rw [dF h, if_neg h]; rfl) (by unfold internal_bytealg_LastIndexByteString_l1; rw [dF (by omega)]; rfl)
 by_cases h : (47 : UInt8) ∈ x
 ·obtain ⟨a, b, e, hb⟩ := cutR h
  rw [h1 a b e hb, if_pos h, e, upP_cut hb]; rfl
 ·rw [h2 h, if_neg h]; rfl
theorem upP_len : ∀ x : List UInt8, (upP x).length ≤ x.length := by
 intro x
 by_cases h : (47 : UInt8) ∈ x
 ·obtain ⟨a, b, e, hb⟩ := cutR h
  rw [e, upP_cut hb]; simp
 ·rw [upP_none h]; simp
theorem upP_take (x : List UInt8) : x.take (upP x).length = upP x := by
 by_cases h : (47 : UInt8) ∈ x
 ·obtain ⟨a, b, e, hb⟩ := cutR h
  rw [e, upP_cut hb, List.take_left]
 ·rw [upP_none h]; simp
theorem tree_above_eq {x : List UInt8} (hl : x.length ≤ 100000000000) : tree_above x = some (upP x, decide ((47 : UInt8) ∈ x)) := by
 unfold tree_above
 rw [LastIndex_eq hl, Option.bind_some]
 have hu := upP_len x
 by_cases h : (47 : UInt8) ∈ x
 ·rw [if_pos h, if_neg (by omega), slc_ok (by omega), dT (by omega), dT h]
  simp [upP_take]
 ·rw [if_neg h, if_pos (by omega), slc_ok (by omega), dF (by omega), dF h, upP_none h]
  simp
theorem ref_Up_eq {x : List UInt8} (hl : x.length ≤ 100000000000) : ref11_Up x = some (upP x) := by
 unfold ref11_Up
 rw [wI' (by omega)]
 obtain ⟨h1, h2⟩ := loop_dn x (fun s => ref11_Up_l1 x s) (fun t => x.take t) (fun t c hc => by
  have := lt_of_get hc
  unfold ref11_Up_l1
  rw [dT (by omega), idx_ok hc, cond_true, Option.bind_some, u8_47, slc_ok (by omega), wI' (by omega)]
  by_cases h : c = 47
  ·rw [dT h, if_pos h]; simp
  ·rw [dF h, if_neg h]; rfl) (by unfold ref11_Up_l1; rw [dF (by omega)]; rfl)
 by_cases h : (47 : UInt8) ∈ x
 ·obtain ⟨a, b, e, hb⟩ := cutR h
  rw [h1 a b e hb, e, upP_cut hb, bR, List.take_left]
 ·rw [h2 h, upP_none h]; rfl
theorem up_ne {x : List UInt8} (h : ∀ p ∈ spl x, vN p = true) (hm : (47 : UInt8) ∈ x) : upP x ≠ [] := by
 obtain ⟨a, b, e, hb⟩ := cutR hm
 rw [e, upP_cut hb]
 intro ha
 subst ha
 have := h [] (by rw [e, spl_pre (by simp)]; exact List.mem_cons_self ..)
 cases this
end Go.Proofs.YtkleajhiihbefaaGreatDoor.F
namespace Go.Proofs.YtkleajhiihbefaaGreatDoor.F
open Go Go.RowKit Go.Proofs.YtkleajhiihbefaaGreatDoor.K Go.Proofs.YtkleajhiihbefaaGreatDoor.K.E
def txt (s : List UInt8) (lo hi : Int) : Bool := (decide (lo ≤ (s.length : Int)) && decide ((s.length : Int) ≤ hi)) && !s.contains 0
structure FOk (x1 x2 x3 x4 x5 x6 : Int) (x7 x8 : List UInt8) (x9 : Int) (x10 : List TApiAttr) : Prop where
 m : 0 ≤ x2 ∧ x2 ≤ 4095
 u : 0 ≤ x3 ∧ x3 ≤ 4294967295
 g : 0 ≤ x4 ∧ x4 ≤ 4294967295
 t : 0 ≤ x5 ∧ x5 ≤ 4294967295
 sz : x1 = 1 → (x7.length : Int) ≤ x6 ∧ x6 ≤ 1099511627775
 tg : x1 = 3 → txt x8 1 4096 = true
 dv : x1 > 3 → 0 ≤ x9 ∧ x9 ≤ 4294967295
 al : x10.length ≤ 64
 av : ∀ a ∈ x10, txt a.Name 1 255 = true ∧ a.Value.length ≤ 4096
 ad : ∀ (i k : Nat) a b, k < i → x10[i]? = some a → x10[k]? = some b → b.Name ≠ a.Name
theorem between_eq (n lo hi : Int) : tree_between n lo hi = some (decide (lo ≤ n) && decide (n ≤ hi)) := by
 unfold tree_between
 by_cases h : lo ≤ n
 ·rw [dT h]; rfl
 ·rw [dF h]; rfl
theorem between_t {n lo hi : Int} (h : lo ≤ n ∧ n ≤ hi) : tree_between n lo hi = some true := by rw [between_eq, dT h.1, dT h.2]; rfl
theorem in_eq (n lo hi : Int) : ref11_in n lo hi = some (decide (lo ≤ n) && decide (n ≤ hi)) := by
 unfold ref11_in
 by_cases h : lo ≤ n
 ·rw [dT h]; rfl
 ·rw [dF h]; rfl
theorem text_eq (s : List UInt8) (lo hi : Int) : tree_text s lo hi = some (txt s lo hi) := by
 unfold tree_text txt
 rw [between_eq, Option.bind_some, sIx_eq, Option.bind_some, ix_neg]
 cases (decide (lo ≤ (s.length : Int)) && decide ((s.length : Int) ≤ hi)) <;> rfl
theorem firstQ_get {α ρ : Type} {q : Nat → α → Option ρ} {l : List α} {r : ρ} (h : firstQ q 0 l = some r) : ∃ t x, l[t]? = some x ∧ q t x = some r := by
 obtain ⟨t, x, h1, h2⟩ := firstQ_some h
 exact ⟨t, x, h1, by rwa [Nat.zero_add] at h2⟩
theorem firstQ_no {α ρ : Type} {q : Nat → α → Option ρ} {l : List α} (h : firstQ q 0 l = none) {t : Nat} {x : α} (hx : l[t]? = some x) : q t x = none := by
 have := firstQ_none.1 h t x hx
 rwa [Nat.zero_add] at this
theorem rtext_eq {s : List UInt8} {lo hi : Int} (hh : hi ≤ 100000000000) : ref11_text s lo hi = some (txt s lo hi) := by
 unfold ref11_text txt
 rw [in_eq, Option.bind_some]
 cases hc : (decide (lo ≤ (s.length : Int)) && decide ((s.length : Int) ≤ hi)) with
 | false => rfl
 | true =>
  have hl : (s.length : Int) ≤ hi := by
   rw [Bool.and_eq_true, decide_eq_true_eq, decide_eq_true_eq] at hc
   exact hc.2
  simp only [Bool.not_true, cond_false, Bool.true_and]
  have := loop_first s (fun s_1 => ref11_text_l1 s s_1) (fun t => (t : Int)) (fun _ c => if c = 0 then some (.inr false) else none) (.inl ()) (fun t c hc => by
   have := lt_of_get hc
   unfold ref11_text_l1
   rw [dT (by omega), idx_ok hc, cond_true, Option.bind_some, u8_0, w1 (by omega)]
   by_cases h : c = 0
   ·rw [dT h, if_pos h]; rfl
   ·rw [dF h, if_neg h]; rfl) (by unfold ref11_text_l1; rw [dF (by omega)]; rfl)
  rw [show ((0 : Int)) = ((0 : Nat) : Int) from rfl]
  rw [this]
  cases hf : firstQ (fun _ (c : UInt8) => if c = 0 then some (Sum.inr false : Sum Unit Bool) else none) 0 s with
  | none =>
   have h0 : (0 : UInt8) ∉ s := fun hm => by
    obtain ⟨t, ht, e⟩ := List.getElem_of_mem hm
    have := firstQ_no hf (List.getElem?_eq_some_iff.2 ⟨ht, e⟩)
    simp at this
   simp [h0]
   rfl
  | some r =>
   obtain ⟨t, c, h1, h2⟩ := firstQ_get hf
   by_cases h : c = 0
   ·rw [if_pos h] at h2
    cases h2
    have h0 : (0 : UInt8) ∈ s := h ▸ mem_of_get h1
    simp [h0]
    rfl
   ·rw [if_neg h] at h2; cases h2
theorem pairs_of {l : List TApiAttr} (h : ∀ (i k : Nat) a b, k < i → l[i]? = some a → l[k]? = some b → b.Name ≠ a.Name) {t : Nat} {x : TApiAttr} (hx : l[t]? = some x) : ∀ y ∈ l.take t, (y.Name == x.Name) = false := by
 intro y hy
 obtain ⟨k, hk, e⟩ := List.getElem_of_mem hy
 rw [List.getElem_take] at e
 have hk' : k < t := by rw [List.length_take] at hk; omega
 have := h t k x y hk' hx (List.getElem?_eq_some_iff.2 ⟨by rw [List.length_take] at hk; omega, e⟩)
 simpa using this
theorem tree_fields_good {x x1 x2 x3 x4 x5 x6 x7 x8 x9 x10} (h : FOk x1 x2 x3 x4 x5 x6 x7 x8 x9 x10) : tree_fields x x1 x2 x3 x4 x5 x6 x7 x8 x9 x10 = some 0 := by
 have hal := h.al

 have ha : slices_ContainsFunc_Attr x10 = some false := by
  unfold slices_ContainsFunc_Attr slices_IndexFunc_Attr
  have := loop_ix x10 (fun s => slices_IndexFunc_Attr_l1 x10 s) (fun t => (t : Int)) (fun _ => false) (fun t a hx => by
   have := lt_of_get hx
   obtain ⟨h1, h2⟩ := h.av a (mem_of_get hx)
   unfold slices_IndexFunc_Attr_l1 tree_fields_1
   rw [dT (by omega), idx_ok hx, cond_true, Option.bind_some, text_eq, h1, Option.bind_some]
   simp only [Bool.not_true, cond_false, Option.bind_some]
   rw [dF (by omega), w1 (by omega)]
   rfl) (by unfold slices_IndexFunc_Attr_l1; rw [dF (by omega)]; rfl)
  rw [show ((0 : Int)) = ((0 : Nat) : Int) from rfl, this, ixI_neg fun _ _ => rfl]
  rfl
 have hd : ∀ (t : Nat) a, x10[t]? = some a → slices_ContainsFunc_Attr_2 (x10.take t) a.Name a.Value = some false := by
  intro t a hx
  unfold slices_ContainsFunc_Attr_2 slices_IndexFunc_Attr_2
  have hlt : (x10.take t).length ≤ 64 := by rw [List.length_take]; omega
  have := loop_ix (x10.take t) (fun s : Int × (List UInt8 × List UInt8) => slices_IndexFunc_Attr_2_l1 (x10.take t) s.1 s.2.1 s.2.2) (fun t => ((t : Int), (a.Name, a.Value))) (fun y => y.Name == a.Name) (fun i y hy => by
   have := lt_of_get hy
   unfold slices_IndexFunc_Attr_2_l1 tree_fields_2
   simp only
   rw [dT (by omega), idx_ok hy, cond_true, Option.bind_some, Option.bind_some, w1 (by omega)]
   cases y.Name == a.Name <;> rfl) (by
    unfold slices_IndexFunc_Attr_2_l1
    simp only
    rw [dF (by omega)]
    rfl)
  rw [show ((0 : Int), (a.Name, a.Value)) = (((0 : Nat) : Int), (a.Name, a.Value)) from rfl, this, ixI_neg (pairs_of h.ad hx)]
  rfl
 have hloop : loopO (fun s => tree_fields_l1 x10 s) (0 : Int) = some (.inl ()) := by
  have := loop_first x10 (fun s => tree_fields_l1 x10 s) (fun t => (t : Int)) (fun _ _ => none) (.inl ()) (fun t a hx => by
   have := lt_of_get hx
   unfold tree_fields_l1
   rw [dT (by omega), idx_ok hx, cond_true, Option.bind_some, slc_ok (by omega), Option.bind_some]
   simp only [Int.toNat_natCast, Int.toNat_zero, List.drop_zero]
   rw [hd t a hx, w1 (by omega)]
   rfl) (by unfold tree_fields_l1; rw [dF (by omega)]; rfl)
  rw [show ((0 : Int)) = ((0 : Nat) : Int) from rfl, this, firstQ_none.2 fun _ _ _ => rfl]
  rfl
 unfold tree_fields
 simp only [between_t h.m, between_t h.u, between_t h.g, between_t h.t, Option.bind_some, cond_true, bI, ha, hloop, dT (show (x10.length : Int) ≤ 64 by omega)]
 by_cases h1 : x1 = 1
 ·subst h1
  simp only [show ((1 : Int) == 1) = true from rfl, cond_true, between_t (h.sz rfl), Option.bind_some, bI, Bool.not_true, cond_false]
 ·have e1 : (x1 == 1) = false := by simpa using h1
  by_cases h3 : x1 = 3
  ·subst h3
   simp only [show ((3 : Int) == 1) = false from rfl, show ((3 : Int) == 3) = true from rfl, cond_true, text_eq, h.tg rfl, Option.bind_some, bI, Bool.not_true, cond_false]
  ·have e3 : (x1 == 3) = false := by simpa using h3
   by_cases h4 : x1 = 4
   ·subst h4
    simp only [show ((4 : Int) == 1) = false from rfl, show ((4 : Int) == 3) = false from rfl, show ((4 : Int) == 4) = true from rfl, cond_true, between_t (h.dv (by omega)), Option.bind_some, bI, Bool.not_true, cond_false]
   ·have e4 : (x1 == 4) = false := by simpa using h4
    by_cases h5 : x1 = 5
    ·subst h5
     simp only [show ((5 : Int) == 1) = false from rfl, show ((5 : Int) == 3) = false from rfl, show ((5 : Int) == 4) = false from rfl, show ((5 : Int) == 5) = true from rfl, cond_true, between_t (h.dv (by omega)), Option.bind_some, bI, Bool.not_true, cond_false]
    ·have e5 : (x1 == 5) = false := by simpa using h5
     simp only [e1, e3, e4, e5, cond_true, Option.bind_some, bI, Bool.not_true, cond_false]
theorem and_split {a b : Prop} [Decidable a] [Decidable b] (h : (decide a && decide b) = true) : a ∧ b := by
 rw [Bool.and_eq_true, decide_eq_true_eq, decide_eq_true_eq] at h
 exact h
theorem rattr_loop (x10 : List TApiAttr) (hl : x10.length ≤ 100000000000) : ∃ r, loopO (fun s => ref11_fields_l1 x10 s) (0 : Int) = some r ∧ ((∀ z, r = .inr z → z = 1) ∧ (r = .inl () → ∀ a ∈ x10, txt a.Name 1 255 = true ∧ a.Value.length ≤ 4096)) := by
 have := loop_first x10 (fun s => ref11_fields_l1 x10 s) (fun t => (t : Int)) (fun _ a => if txt a.Name 1 255 = true ∧ a.Value.length ≤ 4096 then none else some (.inr 1)) (.inl ()) (fun t a hx => by
   have := lt_of_get hx
   unfold ref11_fields_l1
   rw [dT (by omega), idx_ok hx, cond_true, Option.bind_some, rtext_eq (by omega), Option.bind_some, Option.bind_some, w1 (by omega)]
   by_cases h1 : txt a.Name 1 255 = true
   ·by_cases h2 : a.Value.length ≤ 4096
    ·rw [if_pos ⟨h1, h2⟩, h1, dF (by omega)]; rfl
    ·rw [if_neg fun h => h2 h.2, h1, dT (by omega)]; rfl
   ·rw [if_neg fun h => h1 h.1]
    rw [Bool.not_eq_true] at h1
    rw [h1]; rfl) (by unfold ref11_fields_l1; rw [dF (by omega)]; rfl)
 rw [show ((0 : Int)) = ((0 : Nat) : Int) from rfl, this]
 refine ⟨_, rfl, ?_, ?_⟩
 ·intro z hz
  cases hf : firstQ (fun _ (a : TApiAttr) => if txt a.Name 1 255 = true ∧ a.Value.length ≤ 4096 then none else some (Sum.inr 1 : Sum Unit Int)) 0 x10 with
  | none => rw [hf] at hz; cases hz
  | some r =>
   obtain ⟨t, c, h1, h2⟩ := firstQ_get hf
   split at h2
   ·cases h2
   ·cases h2; rw [hf] at hz; cases hz; rfl
 ·intro hr
  cases hf : firstQ (fun _ (a : TApiAttr) => if txt a.Name 1 255 = true ∧ a.Value.length ≤ 4096 then none else some (Sum.inr 1 : Sum Unit Int)) 0 x10 with
  | none =>
   intro a ha
   obtain ⟨t, ht, e⟩ := List.getElem_of_mem ha
   have := firstQ_no hf (List.getElem?_eq_some_iff.2 ⟨ht, e⟩)
   split at this
   ·assumption
   ·cases this
  | some r =>
   obtain ⟨t, c, h1, h2⟩ := firstQ_get hf
   split at h2
   ·cases h2
   ·cases h2; rw [hf] at hr; cases hr
theorem rpair_loop (x10 : List TApiAttr) (hl : x10.length ≤ 100000000000) : ∃ r, loopO (fun s => ref11_fields_l2 x10 s) (0 : Int) = some r ∧ ((∀ z, r = .inr z → z = 110) ∧ (r = .inl () → ∀ (i k : Nat) a b, k < i → x10[i]? = some a → x10[k]? = some b → b.Name ≠ a.Name)) := by
 have inner : ∀ (i : Nat) a, x10[i]? = some a → ∃ r, loopO (fun s => ref11_fields_l3 x10 (i : Int) s) (0 : Int) = some r ∧ (r = .inr (.inr (.inr 110)) ∨ (r = .inl () ∧ ∀ (k : Nat) b, k < i → x10[k]? = some b → b.Name ≠ a.Name)) := by
  intro i a hx
  have hi := lt_of_get hx
  refine loop_inv i (fun t s => s = (t : Int) ∧ ∀ (k : Nat) b, k < t → x10[k]? = some b → b.Name ≠ a.Name) _ ?_ ?_ ⟨rfl, fun k b h _ => absurd h (Nat.not_lt_zero _)⟩
  ·rintro t s ht ⟨rfl, hI⟩
   have hb : x10[t]? = some x10[t] := List.getElem?_eq_getElem (by omega)
   unfold ref11_fields_l3
   rw [dT (by omega), idx_ok hb, idx_ok hx, cond_true, Option.bind_some, Option.bind_some, w1 (by omega)]
   by_cases he : x10[t].Name = a.Name
   ·refine Or.inr ⟨_, by rw [he, beq_self_eq_true]; rfl, Or.inl rfl⟩
   ·refine Or.inl ⟨((t + 1 : Nat) : Int), by rw [show (x10[t].Name == a.Name) = false by simpa using he]; rfl, rfl, fun k b hk hkb => ?_⟩
    by_cases e : k = t
    ·subst e; rw [hb] at hkb; cases hkb; exact he
    ·exact hI k b (by omega) hkb
  ·rintro s ⟨rfl, hI⟩
   unfold ref11_fields_l3
   rw [dF (by omega)]
   exact ⟨_, rfl, Or.inr ⟨rfl, hI⟩⟩
 refine loop_inv x10.length (fun t s => s = (t : Int) ∧ ∀ (i k : Nat) a b, i < t → k < i → x10[i]? = some a → x10[k]? = some b → b.Name ≠ a.Name) _ ?_ ?_ ⟨rfl, fun i k a b h _ => absurd h (Nat.not_lt_zero _)⟩
 ·rintro t s ht ⟨rfl, hI⟩
  have hx : x10[t]? = some x10[t] := List.getElem?_eq_getElem (by omega)
  obtain ⟨r, h1, h2⟩ := inner t _ hx
  unfold ref11_fields_l2
  rw [dT (by omega), cond_true, h1, w1 (by omega)]
  rcases h2 with rfl | ⟨rfl, h3⟩
  ·exact Or.inr ⟨_, rfl, (fun z hz => by cases hz; rfl), fun h => by cases h⟩
  ·refine Or.inl ⟨((t + 1 : Nat) : Int), rfl, rfl, fun i k a b hi hk ha hb => ?_⟩
   by_cases e : i = t
   ·subst e; rw [hx] at ha; cases ha; exact h3 k b hk hb
   ·exact hI i k a b (by omega) hk ha hb
 ·rintro s ⟨rfl, hI⟩
  unfold ref11_fields_l2
  rw [dF (by omega)]
  exact ⟨_, rfl, (fun z hz => by cases hz), fun _ i k a b hk ha hb => hI i k a b (lt_of_get ha) hk ha hb⟩
theorem ref_fields_eq (x x1 x2 x3 x4 x5 x6 x7 x8 x9) {x10 : List TApiAttr} (hl : x10.length ≤ 100000000000) : ∃ r, ref11_fields x x1 x2 x3 x4 x5 x6 x7 x8 x9 x10 = some r ∧ (r = 0 → FOk x1 x2 x3 x4 x5 x6 x7 x8 x9 x10) := by
 obtain ⟨r1, e1, p1, q1⟩ := rattr_loop x10 hl
 obtain ⟨r2, e2, p2, q2⟩ := rpair_loop x10 hl
 unfold ref11_fields
 simp only [in_eq, Option.bind_some, rtext_eq (show (4096 : Int) ≤ 100000000000 by omega), e1, e2]
 cases c1 : (decide ((0 : Int) ≤ x2) && decide (x2 ≤ 4095)) with
 | false => exact ⟨1, rfl, fun h => by cases h⟩
 | true =>
 cases c2 : (decide ((0 : Int) ≤ x3) && decide (x3 ≤ 4294967295)) with
 | false => exact ⟨1, rfl, fun h => by cases h⟩
 | true =>
 cases c3 : (decide ((0 : Int) ≤ x4) && decide (x4 ≤ 4294967295)) with
 | false => exact ⟨1, rfl, fun h => by cases h⟩
 | true =>
 cases c4 : (decide ((0 : Int) ≤ x5) && decide (x5 ≤ 4294967295)) with
 | false => exact ⟨1, rfl, fun h => by cases h⟩
 | true =>
 simp only [Bool.not_true, cond_false, bI]
 have tail : ∀ (hs : x1 = 1 → (x7.length : Int) ≤ x6 ∧ x6 ≤ 1099511627775) (ht : x1 = 3 → txt x8 1 4096 = true) (hv : x1 > 3 → 0 ≤ x9 ∧ x9 ≤ 4294967295), ∃ r, bnd (some (.inl (decide ((x10.length : Int) > 64))) : Option (Sum Bool Int)) (fun x12 => cond x12 (some 1) (bnd (some r1) fun _ => bnd (some r2) fun _ => some 0)) = some r ∧ (r = 0 → FOk x1 x2 x3 x4 x5 x6 x7 x8 x9 x10) := by
  intro hs ht hv
  rw [bI]
  by_cases h64 : (x10.length : Int) > 64
  ·rw [dT h64]; exact ⟨1, rfl, fun h => by cases h⟩
  ·rw [dF h64, cond_false]
   cases r1 with
   | inr z => rw [p1 z rfl]; exact ⟨1, rfl, fun h => by cases h⟩
   | inl y1 =>
    cases r2 with
    | inr z => rw [p2 z rfl]; exact ⟨110, rfl, fun h => by cases h⟩
    | inl y2 => exact ⟨0, rfl, fun _ => ⟨and_split c1, and_split c2, and_split c3, and_split c4, hs, ht, hv, by omega, q1 rfl, q2 rfl⟩⟩
 by_cases k1 : x1 = 1
 ·subst k1
  simp only [show ((1 : Int) == 1) = true from rfl, show ((1 : Int) == 3) = false from rfl, dF (show ¬ (1 : Int) > 3 by omega), cond_true, cond_false]
  cases c5 : (decide ((x7.length : Int) ≤ x6) && decide (x6 ≤ 1099511627775)) with
  | false => exact ⟨1, rfl, fun h => by cases h⟩
  | true => exact tail (fun _ => and_split c5) (fun h => by omega) (fun h => by omega)
 ·rw [show (x1 == 1) = false by simpa using k1, cond_false]
  by_cases k3 : x1 = 3
  ·subst k3
   simp only [show ((3 : Int) == 3) = true from rfl, dF (show ¬ (3 : Int) > 3 by omega), cond_true, cond_false]
   cases c5 : txt x8 1 4096 with
   | false => exact ⟨1, rfl, fun h => by cases h⟩
   | true => exact tail (fun h => by omega) (fun _ => c5) (fun h => by omega)
  ·rw [show (x1 == 3) = false by simpa using k3, cond_false]
   by_cases k4 : x1 > 3
   ·rw [dT k4, cond_true]
    cases c5 : (decide ((0 : Int) ≤ x9) && decide (x9 ≤ 4294967295)) with
    | false => exact ⟨1, rfl, fun h => by cases h⟩
    | true => exact tail (fun h => by omega) (fun h => by omega) (fun _ => and_split c5)
   ·rw [dF k4, cond_false]
    exact tail (fun h => by omega) (fun h => by omega) (fun h => absurd h k4)
end Go.Proofs.YtkleajhiihbefaaGreatDoor.F
namespace Go.Proofs.YtkleajhiihbefaaGreatDoor.F
open Go Go.RowKit Go.Proofs.YtkleajhiihbefaaGreatDoor.K Go.Proofs.YtkleajhiihbefaaGreatDoor.K.E
structure Small (l : List TApiEntry) : Prop where
 len : l.length ≤ 40
 data : ∀ e ∈ l, e.Data.length ≤ 70000
 path : ∀ e ∈ l, e.Path.length ≤ 5000
 targ : ∀ e ∈ l, e.Target.length ≤ 5000
 attr : ∀ e ∈ l, e.Attrs.length ≤ 70
theorem Much_l2_eq {l : List TApiEntry} {i : Nat} {e : TApiEntry} (he : l[i]? = some e) (ha : e.Attrs.length ≤ 70) (sum : Int) : ∃ r, loopO (fun s : Int × Int => ref11_Much_l2 l (i : Int) s.1 s.2) (sum, 0) = some r ∧ ((∃ z, r = .inl z) ∨ r = .inr (.inr (.inr true))) := by
 refine loop_inv e.Attrs.length (fun t s => s.2 = (t : Int)) _ ?_ ?_ rfl
 ·rintro t ⟨s, k⟩ ht hk
  simp only at hk
  subst hk
  have hx : e.Attrs[t]? = some e.Attrs[t] := List.getElem?_eq_getElem ht
  unfold ref11_Much_l2
  simp only [idx_ok he, idx_ok hx, Option.bind_some]
  rw [dT (by omega), cond_true, w1 (by omega)]
  cases decide ((e.Attrs[t].Name.length : Int) > 300) with
  | true => exact Or.inr ⟨_, rfl, Or.inr rfl⟩
  | false =>
  cases decide ((e.Attrs[t].Value.length : Int) > 5000) with
  | true => exact Or.inr ⟨_, rfl, Or.inr rfl⟩
  | false =>
  cases decide ((IntKind.i64.wrap ((IntKind.i64.wrap (s + (e.Attrs[t].Name.length : Int))) + (e.Attrs[t].Value.length : Int))) > 1000000) with
  | true => exact Or.inr ⟨_, rfl, Or.inr rfl⟩
  | false => exact Or.inl ⟨_, rfl, rfl⟩
 ·rintro ⟨s, k⟩ hk
  simp only at hk
  subst hk
  unfold ref11_Much_l2
  simp only [idx_ok he, Option.bind_some]
  rw [dF (by omega)]
  exact ⟨_, rfl, Or.inl ⟨s, rfl⟩⟩
theorem Much_eq (l : List TApiEntry) : ∃ b, ref11_Much l = some b ∧ (b = false → Small l) := by
 unfold ref11_Much
 by_cases h40 : (l.length : Int) > 40
 ·rw [dT h40]; exact ⟨true, rfl, fun h => by cases h⟩
 rw [dF h40, cond_false]
 have := loop_inv (body := fun s : Int × Int => ref11_Much_l1 l s.1 s.2) l.length (fun t s => s.2 = (t : Int) ∧ ∀ k e, k < t → l[k]? = some e → e.Data.length ≤ 70000 ∧ e.Path.length ≤ 5000 ∧ e.Target.length ≤ 5000 ∧ e.Attrs.length ≤ 70) (fun r => r = .inr true ∨ (r = .inl () ∧ Small l)) (by
  rintro t ⟨s, k⟩ ht ⟨hk, hI⟩
  simp only at hk
  subst hk
  have hx : l[t]? = some l[t] := List.getElem?_eq_getElem ht
  unfold ref11_Much_l1
  simp only [idx_ok hx, Option.bind_some]
  rw [dT (by omega), cond_true, w1 (by omega)]
  by_cases c1 : (l[t].Data.length : Int) > 70000
  ·rw [dT c1]; exact Or.inr ⟨_, rfl, Or.inl rfl⟩
  rw [dF c1]
  by_cases c2 : (l[t].Path.length : Int) > 5000
  ·rw [dT c2]; exact Or.inr ⟨_, rfl, Or.inl rfl⟩
  rw [dF c2]
  by_cases c3 : (l[t].Target.length : Int) > 5000
  ·rw [dT c3]; exact Or.inr ⟨_, rfl, Or.inl rfl⟩
  rw [dF c3]
  by_cases c4 : (l[t].Attrs.length : Int) > 70
  ·rw [dT c4]; exact Or.inr ⟨_, rfl, Or.inl rfl⟩
  rw [dF c4]
  simp only [cond_false, bI]
  obtain ⟨r, e1, e2⟩ := Much_l2_eq hx (by omega) s
  rw [e1]
  rcases e2 with ⟨z, rfl⟩ | rfl
  ·refine Or.inl ⟨_, rfl, rfl, fun k e hk he => ?_⟩
   by_cases ek : k = t
   ·subst ek; rw [hx] at he; cases he; exact ⟨by omega, by omega, by omega, by omega⟩
   ·exact hI k e (by omega) he
  ·exact Or.inr ⟨_, rfl, Or.inl rfl⟩) (by
  rintro ⟨s, k⟩ ⟨hk, hI⟩
  simp only at hk
  subst hk
  unfold ref11_Much_l1
  rw [dF (by omega)]
  have hm : ∀ e ∈ l, e.Data.length ≤ 70000 ∧ e.Path.length ≤ 5000 ∧ e.Target.length ≤ 5000 ∧ e.Attrs.length ≤ 70 := fun e he => by
   obtain ⟨t, ht, e1⟩ := List.getElem_of_mem he
   exact hI t e ht (List.getElem?_eq_some_iff.2 ⟨ht, e1⟩)
  exact ⟨_, rfl, Or.inr ⟨rfl, ⟨by omega, fun e he => (hm e he).1, fun e he => (hm e he).2.1, fun e he => (hm e he).2.2.1, fun e he => (hm e he).2.2.2⟩⟩⟩) (s := (0, 0)) ⟨rfl, fun k e h _ => absurd h (Nat.not_lt_zero _)⟩
 obtain ⟨r, e1, e2⟩ := this
 rw [e1]
 rcases e2 with rfl | ⟨rfl, h⟩
 ·exact ⟨true, rfl, fun h => by cases h⟩
 ·exact ⟨false, rfl, fun _ => h⟩
theorem rValid_eq {s : List UInt8} : ref10_Valid s = some (vN s) := by
 unfold ref10_Valid vN
 by_cases h1 : s = []
 ·subst h1; rfl
 have hp : 0 < s.length := List.length_pos_iff.2 h1
 rw [dF (show ¬ ((s.length : Int) < 1) by omega), show (s != []) = true by simpa using h1]
 by_cases h2 : (s.length : Int) > 255
 ·rw [dT h2, dF (by omega)]; rfl
 rw [dF h2, dT (by omega)]
 by_cases h3 : s = [46]
 ·subst h3; rfl
 rw [show (s == [46]) = false by simpa using h3, show (s != [46]) = true by simpa using h3]
 by_cases h4 : s = [46, 46]
 ·subst h4; rfl
 rw [show (s == [46, 46]) = false by simpa using h4, show (s != [46, 46]) = true by simpa using h4]
 simp only [cond_false, bI, Bool.true_and]
 have := loop_first s (fun s_1 => ref10_Valid_l1 s s_1) (fun t => (t : Int)) (fun _ c => if c = 47 ∨ c = 0 then some (.inr false) else none) (.inl ()) (fun t c hc => by
   have := lt_of_get hc
   unfold ref10_Valid_l1
   simp only [idx_ok hc, Option.bind_some, u8_0, u8_47]
   rw [dT (by omega), cond_true, w1 (by omega)]
   by_cases g1 : c = 47
   ·rw [dT g1, if_pos (Or.inl g1)]; rfl
   ·rw [dF g1]
    by_cases g2 : c = 0
    ·rw [dT g2, if_pos (Or.inr g2)]; rfl
    ·rw [dF g2, if_neg fun h => h.elim g1 g2]; rfl) (by unfold ref10_Valid_l1; rw [dF (by omega)]; rfl)
 rw [show ((0 : Int)) = ((0 : Nat) : Int) from rfl]
 rw [this]
 cases hf : firstQ (fun _ (c : UInt8) => if c = 47 ∨ c = 0 then some (Sum.inr false : Sum Unit Bool) else none) 0 s with
 | none =>
  have h0 : ∀ c ∈ s, ¬ (c = 47 ∨ c = 0) := fun c hm hc => by
   obtain ⟨t, ht, e⟩ := List.getElem_of_mem hm
   have := firstQ_no hf (List.getElem?_eq_some_iff.2 ⟨ht, e⟩)
   rw [if_pos hc] at this
   cases this
  have g1 : (47 : UInt8) ∉ s := fun hm => h0 _ hm (Or.inl rfl)
  have g2 : (0 : UInt8) ∉ s := fun hm => h0 _ hm (Or.inr rfl)
  simp [g1, g2]
  rfl
 | some r =>
  obtain ⟨t, c, g1, g2⟩ := firstQ_get hf
  by_cases h : c = 47 ∨ c = 0
  ·rw [if_pos h] at g2
   cases g2
   have : s.contains 47 = true ∨ s.contains 0 = true := by
    rcases h with rfl | rfl
    ·exact Or.inl (by simpa using mem_of_get g1)
    ·exact Or.inr (by simpa using mem_of_get g1)
   rcases this with h | h
   ·rw [h]; rfl
   ·rw [h]; simp; rfl
  ·rw [if_neg h] at g2; cases g2
def keepP (p : List UInt8) : Bool := p != [] && p != [46]
def joinP : List (List UInt8) → List UInt8
 | [] => []
 | [p] => p
 | p :: q :: r => p ++ 47 :: joinP (q :: r)
theorem spl_joinP : ∀ {l : List (List UInt8)}, l ≠ [] → (∀ p ∈ l, (47 : UInt8) ∉ p) → spl (joinP l) = l
 | [p], _, h => spl_none (h p (List.mem_cons_self ..))
 | p :: q :: r, _, h => by
  unfold joinP
  rw [spl_pre (h p (List.mem_cons_self ..)), spl_joinP (by simp) (fun x hx => h x (List.mem_cons_of_mem _ hx))]
theorem joinP_concat : ∀ {l : List (List UInt8)} {p : List UInt8}, l ≠ [] → joinP (l ++ [p]) = joinP l ++ (47 :: p)
 | [q], p, _ => rfl
 | q :: r :: l, p, _ => by
  rw [show q :: r :: l ++ [p] = q :: r :: (l ++ [p]) from rfl]
  unfold joinP
  rw [show r :: (l ++ [p]) = (r :: l) ++ [p] from rfl, joinP_concat (by simp)]
  simp
theorem vN_47 {p : List UInt8} (h : vN p = true) : (47 : UInt8) ∉ p := by
 unfold vN at h
 simp only [Bool.and_eq_true] at h
 have := h.2.2.2.2.1
 simpa using this
theorem rSplit2 {x : List UInt8} (hx : x.length ≤ 4096) : ∀ (b pre cur : List UInt8) (l : List (List UInt8)), x = pre ++ cur ++ b → (47 : UInt8) ∉ cur → l.length + b.length ≤ 5000 →
  ∃ r, loopO (fun s : List (List UInt8) × Int × Int => ref10_Split_l2 x s.1 s.2.1 s.2.2) (l, (pre.length : Int), ((pre.length + cur.length : Nat) : Int)) = some r ∧ ((r = .inr ([], 1) ∧ ∃ p ∈ spl (cur ++ b), p.length > 255) ∨ r = .inl (l ++ (spl (cur ++ b)).filter keepP)) := by
 intro b
 induction b with
 | nil =>
  intro pre cur l hxe hcur hl
  have hxl : x.length = pre.length + cur.length := by rw [hxe]; simp
  have hsl : slc x (pre.length : Int) ((pre.length + cur.length : Nat) : Int) = some cur := by
   rw [slc_ok (by omega)]
   simp only [Int.toNat_natCast]
   rw [← hxl, List.take_length, hxe, List.append_nil, List.drop_left]
  have hend : ∀ (L : List (List UInt8)) (f : Int), ref10_Split_l2 x L f ((pre.length + cur.length + 1 : Nat) : Int) = some (.inr (.inl L)) := by
   intro L f
   unfold ref10_Split_l2
   rw [dF (by omega)]
   rfl
  rw [List.append_nil, spl_none hcur]
  by_cases g1 : (cur.length : Int) > 255
  ·refine ⟨_, loop_end ?_, Or.inl ⟨rfl, cur, List.mem_cons_self .., by omega⟩⟩
   unfold ref10_Split_l2
   simp only
   rw [dT (by omega), dF (by omega), cond_true, cond_false, bI, cond_false, hsl, Option.bind_some, dT g1]
   rfl
  by_cases g2 : keepP cur = true
  ·have g3 : (cur != []) = true ∧ (cur != [46]) = true := by unfold keepP at g2; exact Bool.and_eq_true_iff.1 g2
   refine ⟨_, ?_, Or.inr rfl⟩
   rw [loop_next (s' := (l ++ [cur], ((pre.length + cur.length + 1 : Nat) : Int), ((pre.length + cur.length + 1 : Nat) : Int)))]
   ·rw [loop_end (hend _ _), List.filter_cons_of_pos g2]; rfl
   ·unfold ref10_Split_l2
    simp only
    rw [dT (by omega), dF (by omega), cond_true, cond_false, bI, cond_false, hsl, Option.bind_some, dF g1, g3.1, g3.2, app_one (by omega), w1 (by omega)]
    rfl
  ·refine ⟨_, ?_, Or.inr rfl⟩
   rw [loop_next (s' := (l, ((pre.length + cur.length + 1 : Nat) : Int), ((pre.length + cur.length + 1 : Nat) : Int)))]
   ·rw [loop_end (hend _ _), List.filter_cons_of_neg g2, List.filter_nil, List.append_nil]
   ·unfold ref10_Split_l2
    simp only
    rw [dT (by omega), dF (by omega), cond_true, cond_false, bI, cond_false, hsl, Option.bind_some, dF g1, w1 (by omega)]
    unfold keepP at g2
    revert g2
    cases cur != [] <;> cases cur != [46] <;> simp
 | cons c b ih =>
  intro pre cur l hxe hcur hl
  have hxl : x.length = pre.length + cur.length + (b.length + 1) := by rw [hxe]; simp; omega
  have hc : x[pre.length + cur.length]? = some c := by
   rw [hxe, List.getElem?_append_right (by simp), List.length_append, Nat.sub_self]
   rfl
  by_cases h47 : c = 47
  ·subst h47
   have hsl : slc x (pre.length : Int) ((pre.length + cur.length : Nat) : Int) = some cur := by
    rw [slc_ok (by omega)]
    simp only [Int.toNat_natCast]
    rw [hxe, ← List.length_append, List.take_left, List.drop_left]
   rw [spl_pre hcur]
   have hpre : (pre ++ cur ++ [47]).length = pre.length + cur.length + 1 := by simp; omega
   have hxe' : x = (pre ++ cur ++ [47]) ++ [] ++ b := by rw [hxe]; simp
   by_cases g1 : (cur.length : Int) > 255
   ·refine ⟨_, loop_end ?_, Or.inl ⟨rfl, cur, List.mem_cons_self .., by omega⟩⟩
    unfold ref10_Split_l2
    simp only [idx_ok hc, Option.bind_some, show (((47 : UInt8).toNat : Int) != 47) = false from rfl]
    rw [dT (by omega), dT (by omega)]
    simp only [cond_true, bI, cond_false]
    rw [hsl, Option.bind_some, dT g1]
    rfl
   by_cases g2 : keepP cur = true
   ·have g3 : (cur != []) = true ∧ (cur != [46]) = true := by unfold keepP at g2; exact Bool.and_eq_true_iff.1 g2
    obtain ⟨r, e1, e2⟩ := ih (pre ++ cur ++ [47]) [] (l ++ [cur]) hxe' (by simp) (by rw [List.length_append]; simp only [List.length_cons, List.length_nil] at hl ⊢; omega)
    refine ⟨r, ?_, ?_⟩
    ·rw [← e1, hpre, List.length_nil, Nat.add_zero]
     refine loop_next ?_
     unfold ref10_Split_l2
     simp only [idx_ok hc, Option.bind_some, show (((47 : UInt8).toNat : Int) != 47) = false from rfl]
     rw [dT (by omega), dT (by omega)]
     simp only [cond_true, bI, cond_false]
     rw [hsl, Option.bind_some, dF g1, g3.1, g3.2, app_one (by simp only [List.length_cons] at hl; omega), w1 (by omega)]
     rfl
    ·rcases e2 with ⟨rfl, p, hp, hp2⟩ | rfl
     ·exact Or.inl ⟨rfl, p, List.mem_cons_of_mem _ (by simpa using hp), hp2⟩
     ·right; rw [List.filter_cons_of_pos g2]; simp
   ·obtain ⟨r, e1, e2⟩ := ih (pre ++ cur ++ [47]) [] l hxe' (by simp) (by simp only [List.length_cons] at hl; omega)
    refine ⟨r, ?_, ?_⟩
    ·rw [← e1, hpre, List.length_nil, Nat.add_zero]
     refine loop_next ?_
     unfold ref10_Split_l2
     simp only [idx_ok hc, Option.bind_some, show (((47 : UInt8).toNat : Int) != 47) = false from rfl]
     rw [dT (by omega), dT (by omega)]
     simp only [cond_true, bI, cond_false]
     rw [hsl, Option.bind_some, dF g1, w1 (by omega)]
     unfold keepP at g2
     revert g2
     cases cur != [] <;> cases cur != [46] <;> simp
    ·rcases e2 with ⟨rfl, p, hp, hp2⟩ | rfl
     ·exact Or.inl ⟨rfl, p, List.mem_cons_of_mem _ (by simpa using hp), hp2⟩
     ·right; rw [List.filter_cons_of_neg g2]; simp
  ·obtain ⟨r, e1, e2⟩ := ih pre (cur ++ [c]) l (by rw [hxe]; simp) (by
    intro hm
    rcases List.mem_append.1 hm with h | h
    ·exact hcur h
    ·simp at h; exact h47 h.symm) (by simp only [List.length_cons] at hl; omega)
   refine ⟨r, ?_, ?_⟩
   ·rw [← e1]
    refine loop_next ?_
    unfold ref10_Split_l2
    simp only [idx_ok hc, Option.bind_some, show (((c.toNat : Int)) != 47) = true by rw [bne, u8_47, dF h47]; rfl]
    rw [dT (by omega), dT (by omega)]
    simp only [cond_true, bI, cond_false]
    rw [w1 (by omega), List.length_append]
    rfl
   ·rcases e2 with ⟨rfl, p, hp, hp2⟩ | rfl
    ·exact Or.inl ⟨rfl, p, by simpa using hp, hp2⟩
    ·right; simp
theorem rSplit_eq (x : List UInt8) (hx5 : x.length ≤ 5000) : ∃ r, ref10_Split x = some r ∧ (r.2 = 0 → x.length ≤ 4096 ∧ r.1 = (spl x).filter keepP) ∧ r.1.length ≤ 128 := by
 unfold ref10_Split
 by_cases h1 : (x.length : Int) > 4096
 ·rw [dT h1]; exact ⟨_, rfl, (fun h => by cases h), by simp⟩
 rw [dF h1, cond_false]
 have e1 := loop_first x (fun s => ref10_Split_l1 x s) (fun t => (t : Int)) (fun _ c => if c = 0 then some (.inr ([], 6)) else none) (.inl ()) (fun t c hc => by
   have := lt_of_get hc
   unfold ref10_Split_l1
   rw [dT (by omega), idx_ok hc, cond_true, Option.bind_some, u8_0, w1 (by omega)]
   by_cases h : c = 0
   ·rw [dT h, if_pos h]; rfl
   ·rw [dF h, if_neg h]; rfl) (by unfold ref10_Split_l1; rw [dF (by omega)]; rfl)
 have e1' : loopO (fun s => ref10_Split_l1 x s) (0 : Int) = _ := e1
 rw [e1']
 cases hf : firstQ (fun _ (c : UInt8) => if c = 0 then some (Sum.inr ([], 6) : Sum Unit (List (List UInt8) × Int)) else none) 0 x with
 | some r =>
  obtain ⟨t, c, g1, g2⟩ := firstQ_get hf
  by_cases h : c = 0
  ·rw [if_pos h] at g2; cases g2; exact ⟨_, rfl, (fun h => by cases h), by simp⟩
  ·rw [if_neg h] at g2; cases g2
 | none =>
  simp only [Option.getD_none, bI]
  obtain ⟨r, e2, e3⟩ := rSplit2 (x := x) (by omega) x [] [] [] rfl (by simp) (by simp; omega)
  have e2' : loopO (fun s : List (List UInt8) × Int × Int => ref10_Split_l2 x s.1 s.2.1 s.2.2) (([], 0, 0) : List (List UInt8) × Int × Int) = some r := e2
  rw [e2']
  rcases e3 with ⟨rfl, _⟩ | rfl
  ·exact ⟨_, rfl, (fun h => by cases h), by simp⟩
  ·simp only [bI, List.nil_append]
   by_cases h2 : (((spl x).filter keepP).length : Int) > 128
   ·rw [dT h2]; exact ⟨_, rfl, (fun h => by cases h), by simp⟩
   ·rw [dF h2]; exact ⟨_, rfl, fun _ => ⟨by omega, rfl⟩, by simp only; omega⟩
theorem rJoin_eq {l : List (List UInt8)} (hl : l.length ≤ 128) (hv : ∀ p ∈ l, vN p = true) : ∃ r, ref10_Join l = some r ∧ (r.2 = 0 → r.1 = joinP l) := by
 unfold ref10_Join
 rw [dF (by omega), cond_false]
 have := loop_inv (body := fun s : List UInt8 × Int => ref10_Join_l1 l s.1 s.2) l.length (fun t s => s.2 = (t : Int) ∧ s.1 = joinP (l.take t) ∧ s.1.length ≤ t * 300) (fun r => r = .inl (joinP l)) (by
  rintro t ⟨s, k⟩ ht ⟨hk, hs, hn⟩
  simp only at hk hs hn
  subst hk
  have hx : l[t]? = some l[t] := List.getElem?_eq_getElem ht
  have hvx := hv _ (mem_of_get hx)
  have hlen : l[t].length ≤ 255 := by
   unfold vN at hvx
   simp only [Bool.and_eq_true, decide_eq_true_eq] at hvx
   have := hvx.2.1
   omega
  refine Or.inl ?_
  unfold ref10_Join_l1
  simp only [idx_ok hx, Option.bind_some, rValid_eq, hvx, Bool.not_true]
  rw [dT (by omega), cond_true, w1 (by omega)]
  have hb : (cond (l[t] != ([46, 46] : List UInt8)) (some (.inl false)) (some (.inl false)) : Option (Sum Bool (Sum (List UInt8 × Int) (Sum (List UInt8) (List UInt8 × Int))))) = some (.inl false) := by cases (l[t] != ([46, 46] : List UInt8)) <;> rfl
  rw [hb, bI, cond_false]
  have htk : l.take (t + 1) = l.take t ++ [l[t]] := by rw [List.take_add_one, hx]; rfl
  by_cases h0 : t = 0
  ·subst h0
   have hs0 : s = [] := by rw [hs]; rfl
   subst hs0
   rw [dF (by omega), cond_false, cat_ok (by simp; omega)]
   exact ⟨_, rfl, rfl, by rw [htk]; rfl, by simp; omega⟩
  ·rw [dT (by omega), cond_true, cat_ok (by simp only [List.length_cons, List.length_nil]; omega), Option.bind_some, cat_ok (by simp only [List.length_append, List.length_cons, List.length_nil]; omega)]
   refine ⟨_, rfl, rfl, ?_, ?_⟩
   ·simp only
    rw [htk, joinP_concat (by
     intro h
     have := congrArg List.length h
     rw [List.length_take, List.length_nil] at this
     omega), hs]
    simp
   ·simp only [List.length_append, List.length_cons, List.length_nil]; omega) (by
  rintro ⟨s, k⟩ ⟨hk, hs, hn⟩
  simp only at hk hs hn
  subst hk
  unfold ref10_Join_l1
  rw [dF (by omega)]
  exact ⟨_, rfl, by rw [hs, List.take_length]⟩) (s := ([], 0)) ⟨rfl, rfl, Nat.zero_le _⟩
 obtain ⟨r, e1, rfl⟩ := this
 rw [e1, bI]
 by_cases h : ((joinP l).length : Int) > 4096
 ·rw [dT h]; exact ⟨_, rfl, fun h => by cases h⟩
 ·rw [dF h]; exact ⟨_, rfl, fun _ => rfl⟩
theorem ref_path_eq {x : List UInt8} (hx : x.length ≤ 5000) (x1 x2 x3 x4 x5 x6 x7 x8 x9 x10) : ∃ r, ref11_path x x1 x2 x3 x4 x5 x6 x7 x8 x9 x10 = some r ∧ (r = 0 → PathOk x x1) := by
 unfold ref11_path
 by_cases h0 : x = []
 ·subst h0
  rw [show (([] : List UInt8) == []) = true from rfl, cond_true]
  by_cases h2 : x1 = 2
  ·subst h2; exact ⟨0, rfl, fun _ => Or.inl ⟨rfl, rfl⟩⟩
  ·rw [show (x1 == 2) = false by simpa using h2]; exact ⟨6, rfl, fun h => by cases h⟩
 rw [show (x == []) = false by simpa using h0, cond_false]
 obtain ⟨⟨ps, er⟩, e1, e2, e3⟩ := rSplit_eq x hx
 rw [e1, Option.bind_some]
 simp only at e2 e3 ⊢
 by_cases her : er = 0
 ·subst her
  obtain ⟨h4, rfl⟩ := e2 rfl
  rw [show ((0 : Int) != 0) = false from rfl, cond_false]
  have hL := loop_first ((spl x).filter keepP) (fun s => ref11_path_l1 ((spl x).filter keepP, (0 : Int)) s) (fun t => (t : Int)) (fun _ p => if vN p then none else some (.inr 6)) (.inl ()) (fun t p hp => by
   have := lt_of_get hp
   unfold ref11_path_l1
   simp only [idx_ok hp, Option.bind_some, rValid_eq]
   rw [dT (by omega), cond_true, w1 (by omega)]
   cases vN p <;> rfl) (by unfold ref11_path_l1; simp only; rw [dF (by omega)]; rfl)
  have hL' : loopO (fun s => ref11_path_l1 ((spl x).filter keepP, (0 : Int)) s) (0 : Int) = _ := hL
  rw [hL']
  cases hf : firstQ (fun _ (p : List UInt8) => if vN p then none else some (Sum.inr 6 : Sum Unit Int)) 0 ((spl x).filter keepP) with
  | some r =>
   obtain ⟨t, c, g1, g2⟩ := firstQ_get hf
   cases hv : vN c with
   | true => rw [hv] at g2; cases g2
   | false => rw [hv] at g2; cases g2; exact ⟨6, rfl, fun h => by cases h⟩
  | none =>
   simp only [Option.getD_none, bI]
   have hv : ∀ p ∈ (spl x).filter keepP, vN p = true := fun p hp => by
    obtain ⟨t, ht, e⟩ := List.getElem_of_mem hp
    have := firstQ_no hf (List.getElem?_eq_some_iff.2 ⟨ht, e⟩)
    cases hv : vN p with
    | true => rfl
    | false => rw [hv] at this; cases this
   obtain ⟨⟨j, ej⟩, e4, e5⟩ := rJoin_eq e3 hv
   rw [e4, Option.bind_some]
   simp only at e5 ⊢
   by_cases hej : ej = 0
   ·subst hej
    rw [show ((0 : Int) != 0) = false from rfl, cond_false, e5 rfl]
    by_cases hj : joinP ((spl x).filter keepP) = x
    ·rw [show (joinP ((spl x).filter keepP) != x) = false by simpa using hj, cond_false]
     have hne : (spl x).filter keepP ≠ [] := fun e => by rw [e] at hj; exact h0 hj.symm
     have hsp : spl x = (spl x).filter keepP := by
      conv => lhs; rw [← hj]
      exact spl_joinP hne fun p hp => vN_47 (hv p hp)
     rw [← hsp] at hv ⊢
     by_cases h64 : ((spl x).length : Int) > 64
     ·rw [dT h64]; exact ⟨3, rfl, fun h => by cases h⟩
     ·rw [dF h64]; exact ⟨0, rfl, fun _ => Or.inr ⟨h0, h4, hv, by omega⟩⟩
    ·rw [show (joinP ((spl x).filter keepP) != x) = true by simpa using hj]; exact ⟨6, rfl, fun h => by cases h⟩
   ·rw [show (ej != 0) = true by simpa using hej]; exact ⟨6, rfl, fun h => by cases h⟩
 ·rw [show (er != 0) = true by simpa using her]; exact ⟨6, rfl, fun h => by cases h⟩
end Go.Proofs.YtkleajhiihbefaaGreatDoor.F
namespace Go.Proofs.YtkleajhiihbefaaGreatDoor.F
open Go Go.RowKit Go.Proofs.YtkleajhiihbefaaGreatDoor.K Go.Proofs.YtkleajhiihbefaaGreatDoor.K.E
structure EntOk (l : List TApiEntry) (i : Nat) (e : TApiEntry) : Prop where
 kind : 1 ≤ e.Kind ∧ e.Kind ≤ 6
 path : PathOk e.Path e.Kind
 dist : ∀ (k : Nat) x, k < i → l[k]? = some x → x.Path ≠ e.Path
 up : upP e.Path = [] ∨ ∃ x ∈ l, x.Path = upP e.Path ∧ x.Kind = 2
 link : e.Kind = 6 → ∃ x ∈ l, x.Path = e.Target ∧ 1 ≤ x.Kind ∧ x.Kind ≤ 5 ∧ x.Kind ≠ 2
 flds : e.Kind ≠ 6 → FOk e.Kind e.Mode e.Uid e.Gid e.Time e.Size e.Data e.Target e.Dev e.Attrs
structure VE (l : List TApiEntry) : Prop where
 len : l.length ≤ 90
 data : ∀ e ∈ l, e.Data.length ≤ 80000
 ents : ∀ (i : Nat) e, l[i]? = some e → EntOk l i e
theorem PathOk.len {x : List UInt8} {k : Int} (h : PathOk x k) : x.length ≤ 4096 := by
 rcases h with ⟨rfl, _⟩ | h
 ·simp
 ·exact h.2.1
theorem entry_l1_eq {l : List TApiEntry} {i : Nat} {x : TApiEntry} (hi : i ≤ l.length) (hl : l.length ≤ 40) : ∃ r, loopO (fun s => ref11_entry_l1 l (i : Int) x s) (0 : Int) = some r ∧ (r = .inr 110 ∨ (r = .inl () ∧ ∀ (k : Nat) y, k < i → l[k]? = some y → y.Path ≠ x.Path)) := by
 refine loop_inv i (fun t s => s = (t : Int) ∧ ∀ (k : Nat) y, k < t → l[k]? = some y → y.Path ≠ x.Path) _ ?_ ?_ ⟨rfl, fun k y h _ => absurd h (Nat.not_lt_zero _)⟩
 ·rintro t s ht ⟨rfl, hI⟩
  have hb : l[t]? = some l[t] := List.getElem?_eq_getElem (by omega)
  unfold ref11_entry_l1
  rw [dT (by omega), idx_ok hb, cond_true, Option.bind_some, w1 (by omega)]
  by_cases he : l[t].Path = x.Path
  ·exact Or.inr ⟨_, by rw [he, beq_self_eq_true]; rfl, Or.inl rfl⟩
  ·refine Or.inl ⟨((t + 1 : Nat) : Int), by rw [show (l[t].Path == x.Path) = false by simpa using he]; rfl, rfl, fun k b hk hkb => ?_⟩
   by_cases e : k = t
   ·subst e; rw [hb] at hkb; cases hkb; exact he
   ·exact hI k b (by omega) hkb
 ·rintro s ⟨rfl, hI⟩
  unfold ref11_entry_l1
  rw [dF (by omega)]
  exact ⟨_, rfl, Or.inr ⟨rfl, hI⟩⟩
theorem entry_l2_eq {l : List TApiEntry} {x : TApiEntry} (hl : l.length ≤ 40) (hx : x.Path.length ≤ 5000) (u0 : Bool) : ∃ u n, loopO (fun s : Bool × Bool × Int => ref11_entry_l2 l x s.1 s.2.1 s.2.2) (u0, false, 0) = some (.inl (u, n)) ∧ (u = true → u0 = true ∨ ∃ y ∈ l, y.Path = upP x.Path ∧ y.Kind = 2) ∧ (n = true → ∃ y ∈ l, y.Path = x.Target ∧ 1 ≤ y.Kind ∧ y.Kind ≤ 5 ∧ y.Kind ≠ 2) := by
 have := loop_inv (body := fun s : Bool × Bool × Int => ref11_entry_l2 l x s.1 s.2.1 s.2.2) l.length (fun t s => s.2.2 = (t : Int) ∧ (s.1 = true → u0 = true ∨ ∃ y ∈ l, y.Path = upP x.Path ∧ y.Kind = 2) ∧ (s.2.1 = true → ∃ y ∈ l, y.Path = x.Target ∧ 1 ≤ y.Kind ∧ y.Kind ≤ 5 ∧ y.Kind ≠ 2)) (fun r => ∃ u n, r = .inl (u, n) ∧ (u = true → u0 = true ∨ ∃ y ∈ l, y.Path = upP x.Path ∧ y.Kind = 2) ∧ (n = true → ∃ y ∈ l, y.Path = x.Target ∧ 1 ≤ y.Kind ∧ y.Kind ≤ 5 ∧ y.Kind ≠ 2)) (by
  rintro t ⟨u, n, k⟩ ht ⟨hk, hu, hn⟩
  simp only at hk hu hn
  subst hk
  have hb : l[t]? = some l[t] := List.getElem?_eq_getElem ht
  have hm : l[t] ∈ l := mem_of_get hb
  refine Or.inl ?_
  have e1 : ∃ u', ((cond u (some (.inl true)) (Option.bind (idx l (t : Int)) fun x2 => (Option.bind (ref11_Up x.Path) fun r3 => (cond (x2.Path == r3) (Option.bind (idx l (t : Int)) fun x3 => some (.inl (x3.Kind == 2))) (some (.inl false)))))) : Option (Sum Bool (Sum (Bool × Bool × Int) (Sum (Bool × Bool) Int)))) = some (.inl u') ∧ (u' = true → u0 = true ∨ ∃ y ∈ l, y.Path = upP x.Path ∧ y.Kind = 2) := by
   cases u with
   | true => exact ⟨true, rfl, hu⟩
   | false =>
    rw [cond_false, idx_ok hb, ref_Up_eq (by omega)]
    simp only [Option.bind_some]
    by_cases hp : l[t].Path = upP x.Path
    ·rw [show (l[t].Path == upP x.Path) = true by simpa using hp]
     exact ⟨_, rfl, fun h => Or.inr ⟨_, hm, hp, by simpa using h⟩⟩
    ·rw [show (l[t].Path == upP x.Path) = false by simpa using hp]
     exact ⟨_, rfl, fun h => by cases h⟩
  obtain ⟨u', e2, hu'⟩ := e1
  unfold ref11_entry_l2
  simp only
  rw [dT (by omega), cond_true, e2, bI, w1 (by omega)]
  cases n with
  | true => exact ⟨_, rfl, rfl, hu', hn⟩
  | false =>
   rw [cond_false, idx_ok hb]
   simp only [Option.bind_some, in_eq]
   by_cases hp : l[t].Path = x.Target
   ·rw [show (l[t].Path == x.Target) = true by simpa using hp, cond_true]
    cases hc : (decide (1 ≤ l[t].Kind) && decide (l[t].Kind ≤ 5)) with
    | true => exact ⟨_, rfl, rfl, hu', fun h => ⟨_, hm, hp, (and_split hc).1, (and_split hc).2, by simpa using h⟩⟩
    | false => exact ⟨_, rfl, rfl, hu', fun h => by cases h⟩
   ·rw [show (l[t].Path == x.Target) = false by simpa using hp]
    exact ⟨_, rfl, rfl, hu', fun h => by cases h⟩) (by
  rintro ⟨u, n, k⟩ ⟨hk, hu, hn⟩
  simp only at hk hu hn
  subst hk
  unfold ref11_entry_l2
  simp only
  rw [dF (by omega)]
  exact ⟨_, rfl, _, _, rfl, hu, hn⟩) (s := (u0, false, 0)) ⟨rfl, fun h => Or.inl h, fun h => by cases h⟩
 obtain ⟨r, e1, u, n, rfl, h1, h2⟩ := this
 exact ⟨u, n, e1, h1, h2⟩
theorem ref_entry_eq {l : List TApiEntry} (S : Small l) {i : Nat} {e : TApiEntry} (he : l[i]? = some e) : ∃ r, ref11_entry l (i : Int) = some r ∧ (r = 0 → EntOk l i e) := by
 have hm := mem_of_get he
 have hpl := S.path e hm
 have hal := S.attr e hm
 have hl := S.len
 unfold ref11_entry
 rw [idx_ok he, Option.bind_some, in_eq, Option.bind_some]
 cases hk : (decide (1 ≤ e.Kind) && decide (e.Kind ≤ 6)) with
 | false => exact ⟨8, rfl, fun h => by cases h⟩
 | true =>
 simp only [Bool.not_true, cond_false]
 obtain ⟨r1, e1, p1⟩ := ref_path_eq hpl e.Kind e.Mode e.Uid e.Gid e.Time e.Size e.Data e.Target e.Dev e.Attrs
 rw [e1, Option.bind_some]
 by_cases h1 : r1 = 0
 ·rw [show (r1 != 0) = false by simpa using h1, cond_false]
  obtain ⟨r2, e2, p2⟩ := entry_l1_eq (l := l) (i := i) (x := e) (Nat.le_of_lt (lt_of_get he)) hl
  rw [e2]
  rcases p2 with rfl | ⟨rfl, p2⟩
  ·exact ⟨110, rfl, fun h => by cases h⟩
  ·rw [bI, ref_Up_eq (by omega), Option.bind_some]
   obtain ⟨u, n, e3, p3, p4⟩ := entry_l2_eq (l := l) (x := e) hl hpl (upP e.Path == [])
   rw [e3, bI]
   simp only
   cases u with
   | false => exact ⟨4, rfl, fun h => by cases h⟩
   | true =>
    simp only [Bool.not_true, cond_false]
    have hup : upP e.Path = [] ∨ ∃ y ∈ l, y.Path = upP e.Path ∧ y.Kind = 2 := by
     rcases p3 rfl with h | h
     ·exact Or.inl (by simpa using h)
     ·exact Or.inr h
    by_cases h6 : e.Kind = 6
    ·rw [show (e.Kind == 6) = true by simpa using h6]
     cases n with
     | false => exact ⟨4, rfl, fun h => by cases h⟩
     | true => exact ⟨0, rfl, fun _ => ⟨and_split hk, p1 h1, p2, hup, fun _ => p4 rfl, fun h => absurd h6 h⟩⟩
    ·rw [show (e.Kind == 6) = false by simpa using h6]
     obtain ⟨r5, e5, p5⟩ := ref_fields_eq e.Path e.Kind e.Mode e.Uid e.Gid e.Time e.Size e.Data e.Target e.Dev (x10 := e.Attrs) (by omega)
     simp only [cond_false, bI]
     rw [e5]
     exact ⟨r5, rfl, fun h => ⟨and_split hk, p1 h1, p2, hup, fun h => absurd h h6, fun _ => p5 h⟩⟩
 ·rw [show (r1 != 0) = true by simpa using h1]
  exact ⟨r1, rfl, fun h => absurd h h1⟩
theorem ref_Check_eq {l : List TApiEntry} (S : Small l) : ∃ r, ref11_Check l = some r ∧ (r.2 = 0 → VE l) := by
 have hl := S.len
 unfold ref11_Check
 rw [dF (by omega), cond_false]
 have h1 := loop_inv (body := fun s : Int × Int => ref11_Check_l1 l s.1 s.2) l.length (fun t s => s.2 = (t : Int) ∧ 0 ≤ s.1 ∧ s.1 ≤ 70000 * t) (fun r => r = .inl () ∨ r = .inr (0, 2)) (by
  rintro t ⟨s, k⟩ ht ⟨hk, hs, hs2⟩
  simp only at hk hs hs2
  subst hk
  have hb : l[t]? = some l[t] := List.getElem?_eq_getElem ht
  have hd := S.data _ (mem_of_get hb)
  unfold ref11_Check_l1
  simp only [idx_ok hb, Option.bind_some]
  rw [dT (by omega), cond_true, w1 (by omega), wI' (x := 8388608 - s) (by omega), wI' (x := s + (l[t].Data.length : Int)) (by omega)]
  cases (l[t].Kind != 1) with
  | true => exact Or.inl ⟨_, rfl, rfl, hs, by simp only; omega⟩
  | false =>
   rw [dF (by omega)]
   exact Or.inl ⟨_, rfl, rfl, by simp only; omega, by simp only; omega⟩) (by
  rintro ⟨s, k⟩ ⟨hk, _⟩
  simp only at hk
  subst hk
  unfold ref11_Check_l1
  rw [dF (by omega)]
  exact ⟨_, rfl, Or.inl rfl⟩) (s := (0, 0)) ⟨rfl, by simp, by simp⟩
 obtain ⟨r1, e1, p1⟩ := h1
 rw [e1]
 rcases p1 with rfl | rfl
 ·rw [bI]
  have h2 := loop_inv (body := fun s => ref11_Check_l2 l s) l.length (fun t s => s = (t : Int) ∧ ∀ (i : Nat) e, i < t → l[i]? = some e → EntOk l i e) (fun r => (∃ z, r = .inr z ∧ z.2 ≠ 0) ∨ (r = .inl () ∧ VE l)) (by
   rintro t s ht ⟨rfl, hI⟩
   have hb : l[t]? = some l[t] := List.getElem?_eq_getElem ht
   obtain ⟨r, e2, p2⟩ := ref_entry_eq S hb
   unfold ref11_Check_l2
   rw [dT (by omega), cond_true, e2, Option.bind_some, w1 (by omega)]
   by_cases hr : r = 0
   ·refine Or.inl ⟨((t + 1 : Nat) : Int), by rw [show (r != 0) = false by simpa using hr]; rfl, rfl, fun i e hi he => ?_⟩
    by_cases ei : i = t
    ·subst ei; rw [hb] at he; cases he; exact p2 hr
    ·exact hI i e (by omega) he
   ·exact Or.inr ⟨_, by rw [show (r != 0) = true by simpa using hr]; rfl, Or.inl ⟨_, rfl, hr⟩⟩) (by
   rintro s ⟨rfl, hI⟩
   unfold ref11_Check_l2
   rw [dF (by omega)]
   exact ⟨_, rfl, Or.inr ⟨rfl, ⟨by omega, fun e he => Nat.le_trans (S.data e he) (by omega), fun i e he => hI i e (lt_of_get he) he⟩⟩⟩) (s := (0 : Int)) ⟨rfl, fun i e h _ => absurd h (Nat.not_lt_zero _)⟩
  obtain ⟨r2, e2, p2⟩ := h2
  rw [e2]
  rcases p2 with ⟨z, rfl, hz⟩ | ⟨rfl, hv⟩
  ·exact ⟨_, rfl, fun h => absurd h hz⟩
  ·exact ⟨_, rfl, fun _ => hv⟩
 ·exact ⟨_, rfl, fun h => by cases h⟩
theorem mget_put {κ β : Type} [BEq κ] [LawfulBEq κ] [DecidableEq κ] (k k' : κ) (v : β) : ∀ l : List (κ × β), mget (mput l k v) k' = if k' = k then some v else mget l k'
 | [] => by
  unfold mput mget
  by_cases h : k' = k
  ·subst h; simp
  ·simp [h]
 | (a, b) :: l => by
  have ih := mget_put k k' v l
  unfold mput
  by_cases h1 : k = a
  ·subst h1
   rw [if_pos (by simp)]
   unfold mget
   by_cases h : k' = k
   ·subst h; simp
   ·simp [h]
  ·rw [if_neg (by simpa using h1)]
   unfold mget at ih ⊢
   rw [List.find?_cons, List.find?_cons]
   by_cases h : k' = a
   ·subst h
    have h2 : ¬ k' = k := fun e => h1 e.symm
    simp [h2]
   ·have : (k' == a) = false := by simpa using h
    simp only [this]
    exact ih
structure IxOk (l : List TApiEntry) (t : Nat) (f d n : List (List UInt8 × Int)) : Prop where
 at_ : ∀ (j : Nat) x, j < t → l[j]? = some x → mget f x.Path = some (j : Int)
 no : ∀ K, (∀ (j : Nat) x, j < t → l[j]? = some x → x.Path ≠ K) → mget f K = none
 db : ∀ K, 0 ≤ (mget d K).getD 0 ∧ (mget d K).getD 0 ≤ t
 ds : ∀ (j : Nat) x, j < t → l[j]? = some x → x.Kind = 2 → 1 ≤ (mget d x.Path).getD 0
 nb : ∀ K, 0 ≤ (mget n K).getD 0 ∧ (mget n K).getD 0 ≤ t
 ns : ∀ (j : Nat) x, j < t → l[j]? = some x → 1 ≤ x.Kind ∧ x.Kind ≤ 5 ∧ x.Kind ≠ 2 → 1 ≤ (mget n x.Path).getD 0
theorem put_count {d : List (List UInt8 × Int)} {t : Nat} (hb : ∀ K, 0 ≤ (mget d K).getD 0 ∧ (mget d K).getD 0 ≤ t) (ht : t ≤ 1000) (P : List UInt8) : (∀ K, 0 ≤ (mget (mput d P (IntKind.i64.wrap (((mget d P).getD 0) + 1))) K).getD 0 ∧ (mget (mput d P (IntKind.i64.wrap (((mget d P).getD 0) + 1))) K).getD 0 ≤ ((t + 1 : Nat) : Int)) ∧ 1 ≤ (mget (mput d P (IntKind.i64.wrap (((mget d P).getD 0) + 1))) P).getD 0 ∧ ∀ K, (mget d K).getD 0 ≤ (mget (mput d P (IntKind.i64.wrap (((mget d P).getD 0) + 1))) K).getD 0 := by
 have hP := hb P
 rw [wI' (by omega)]
 refine ⟨fun K => ?_, ?_, fun K => ?_⟩
 ·rw [mget_put]
  have hK := hb K
  split
  ·simp only [Option.getD_some]; omega
  ·omega
 ·rw [mget_put, if_pos rfl, Option.getD_some]; omega
 ·rw [mget_put]
  split
  ·rename_i h; subst h; rw [Option.getD_some]; omega
  ·exact Int.le_refl _
theorem tree_index_eq {l : List TApiEntry} (V : VE l) : ∃ f d n, tree_index l = some (l, f, d, n) ∧ IxOk l l.length f d n := by
 have hl := V.len
 unfold tree_index
 have := loop_inv (body := fun s : Int × ((List TApiEntry) × (List (List UInt8 × Int)) × (List (List UInt8 × Int)) × (List (List UInt8 × Int))) => tree_index_l1 l s.1 s.2.1 s.2.2.1 s.2.2.2.1 s.2.2.2.2) l.length (fun t s => s.1 = (t : Int) ∧ s.2.1 = l ∧ IxOk l t s.2.2.1 s.2.2.2.1 s.2.2.2.2) (fun r => ∃ f d n, r = .inl (l, f, d, n) ∧ IxOk l l.length f d n) (by
  rintro t ⟨k, b, f, d, n⟩ ht ⟨hk, hb, H⟩
  simp only at hk hb H
  subst hk
  subst b
  have hx : l[t]? = some l[t] := List.getElem?_eq_getElem ht
  have E := V.ents t _ hx
  refine Or.inl ?_
  unfold tree_index_l1
  simp only
  rw [dT (by omega), cond_true, idx_ok hx, Option.bind_some, H.no l[t].Path (fun j y hj hy => E.dist j y hj hy)]
  simp only [Option.isSome_none, Bool.not_false, cond_true, bI]
  rw [w1 (by omega)]
  have hat : ∀ (j : Nat) x, j < t + 1 → l[j]? = some x → mget (mput f l[t].Path (t : Int)) x.Path = some (j : Int) := fun j x hj hjx => by
   rw [mget_put]
   by_cases e : j = t
   ·subst e; rw [hx] at hjx; cases hjx; rw [if_pos rfl]
   ·rw [if_neg (E.dist j x (by omega) hjx)]
    exact H.at_ j x (by omega) hjx
  have hno : ∀ K, (∀ (j : Nat) x, j < t + 1 → l[j]? = some x → x.Path ≠ K) → mget (mput f l[t].Path (t : Int)) K = none := fun K hK => by
   rw [mget_put, if_neg fun e => hK t _ (by omega) hx e.symm]
   exact H.no K fun j x hj hjx => hK j x (by omega) hjx
  have hdb : ∀ K, 0 ≤ (mget d K).getD 0 ∧ (mget d K).getD 0 ≤ ((t + 1 : Nat) : Int) := fun K => by have := H.db K; omega
  have hnb : ∀ K, 0 ≤ (mget n K).getD 0 ∧ (mget n K).getD 0 ≤ ((t + 1 : Nat) : Int) := fun K => by have := H.nb K; omega
  by_cases h2 : l[t].Kind = 2
  ·rw [show (l[t].Kind == 2) = true by simpa using h2]
   obtain ⟨c1, c2, c3⟩ := put_count H.db (by omega) l[t].Path
   refine ⟨_, rfl, rfl, rfl, ⟨hat, hno, c1, fun j x hj hjx hk => ?_, hnb, fun j x hj hjx hk => ?_⟩⟩
   ·by_cases e : j = t
    ·subst e; rw [hx] at hjx; cases hjx; exact c2
    ·exact Int.le_trans (H.ds j x (by omega) hjx hk) (c3 _)
   ·by_cases e : j = t
    ·subst e; rw [hx] at hjx; cases hjx; exact absurd h2 hk.2.2
    ·exact H.ns j x (by omega) hjx hk
  ·rw [show (l[t].Kind == 2) = false by simpa using h2, cond_false, dT E.kind.1, cond_true]
   have hds : ∀ (j : Nat) x, j < t + 1 → l[j]? = some x → x.Kind = 2 → 1 ≤ (mget d x.Path).getD 0 := fun j x hj hjx hk => by
    by_cases e : j = t
    ·subst e; rw [hx] at hjx; cases hjx; exact absurd hk h2
    ·exact H.ds j x (by omega) hjx hk
   by_cases h6 : l[t].Kind < 6
   ·rw [dT h6]
    obtain ⟨c1, c2, c3⟩ := put_count H.nb (by omega) l[t].Path
    refine ⟨_, rfl, rfl, rfl, ⟨hat, hno, hdb, hds, c1, fun j x hj hjx hk => ?_⟩⟩
    by_cases e : j = t
    ·subst e; rw [hx] at hjx; cases hjx; exact c2
    ·exact Int.le_trans (H.ns j x (by omega) hjx hk) (c3 _)
   ·rw [dF h6]
    refine ⟨_, rfl, rfl, rfl, ⟨hat, hno, hdb, hds, hnb, fun j x hj hjx hk => ?_⟩⟩
    by_cases e : j = t
    ·subst e; rw [hx] at hjx; cases hjx; omega
    ·exact H.ns j x (by omega) hjx hk) (by
  rintro ⟨k, b, f, d, n⟩ ⟨hk, hb, H⟩
  simp only at hk hb H
  subst hk
  subst b
  unfold tree_index_l1
  simp only
  rw [dF (by omega)]
  exact ⟨_, rfl, f, d, n, rfl, H⟩) (s := ((0, (l, ([] : List (List UInt8 × Int)), ([] : List (List UInt8 × Int)), ([] : List (List UInt8 × Int)))) : Int × ((List TApiEntry) × (List (List UInt8 × Int)) × (List (List UInt8 × Int)) × (List (List UInt8 × Int))))) ⟨rfl, rfl, ⟨fun j x hj => absurd hj (Nat.not_lt_zero _), fun K _ => rfl, fun K => ⟨Int.le_refl _, Int.le_refl _⟩, fun j x hj => absurd hj (Nat.not_lt_zero _), fun K => ⟨Int.le_refl _, Int.le_refl _⟩, fun j x hj => absurd hj (Nat.not_lt_zero _)⟩⟩
 obtain ⟨r, e1, f, d, n, rfl, H⟩ := this
 rw [e1, bI]
 exact ⟨f, d, n, rfl, H⟩
theorem get_of_mem {α : Type} {l : List α} {x : α} (h : x ∈ l) : ∃ t : Nat, l[t]? = some x := by
 obtain ⟨t, ht, e⟩ := List.getElem_of_mem h
 exact ⟨t, List.getElem?_eq_some_iff.2 ⟨ht, e⟩⟩
theorem checker_ok {l : List TApiEntry} (V : VE l) {f d n} (H : IxOk l l.length f d n) {i : Nat} {e : TApiEntry} (he : l[i]? = some e) : tree_checker_entry l f d n (i : Int) = some (0, (l, f, d, n)) := by
 have E := V.ents i e he
 have hlen := PathOk.len E.path
 unfold tree_checker_entry
 rw [idx_ok he, Option.bind_some, between_t E.kind, Option.bind_some]
 simp only [Bool.not_true, cond_false]
 rw [tree_path_good E.path, Option.bind_some, show ((0 : Int) != 0) = false from rfl, cond_false, H.at_ i e (lt_of_get he) he, Option.getD_some, dF (by omega), cond_false, tree_above_eq (by omega), Option.bind_some]
 simp only
 have hup : ((cond (decide ((47 : UInt8) ∈ e.Path)) (some (.inl (((mget d (upP e.Path)).getD 0) == 0))) (some (.inl false))) : Option (Sum Bool (Int × ((List TApiEntry) × (List (List UInt8 × Int)) × (List (List UInt8 × Int)) × (List (List UInt8 × Int)))))) = some (.inl false) := by
  by_cases hm : (47 : UInt8) ∈ e.Path
  ·rw [dT hm, cond_true]
   rcases E.path with ⟨h1, _⟩ | ⟨h1, h2, h3, h4⟩
   ·rw [h1] at hm; cases hm
   ·rcases E.up with h5 | ⟨x, hx, h6, h7⟩
    ·exact absurd h5 (up_ne h3 hm)
    ·obtain ⟨j, hj⟩ := get_of_mem hx
     have := H.ds j x (lt_of_get hj) hj h7
     rw [h6] at this
     rw [show ((mget d (upP e.Path)).getD 0 == 0) = false by simp; omega]
  ·rw [dF hm]; rfl
 rw [hup, bI, cond_false]
 by_cases h6 : e.Kind = 6
 ·rw [show (e.Kind == 6) = true by simpa using h6, cond_true]
  obtain ⟨x, hx, h1, h2⟩ := E.link h6
  obtain ⟨j, hj⟩ := get_of_mem hx
  have := H.ns j x (lt_of_get hj) hj h2
  rw [h1] at this
  rw [show ((mget n e.Target).getD 0 == 0) = false by simp; omega]
  rfl
 ·rw [show (e.Kind == 6) = false by simpa using h6, cond_false, tree_fields_good (E.flds h6)]
  rfl
theorem tree_Check_good {l : List TApiEntry} (V : VE l) : tree_Check l = some (0, 0) := by
 have hl := V.len
 obtain ⟨f, d, n, e2, H⟩ := tree_index_eq V
 unfold tree_Check
 rw [dF (by omega), cond_false]
 have h1 := loop_inv (body := fun s : Int × Int => tree_Check_l1 l s.1 s.2) l.length (fun t s => s.2 = (t : Int) ∧ 8388608 - 80000 * t ≤ s.1 ∧ s.1 ≤ 8388608) (fun r => r = .inl ()) (by
  rintro t ⟨s, k⟩ ht ⟨hk, hs, hs2⟩
  simp only at hk hs hs2
  subst hk
  have hb : l[t]? = some l[t] := List.getElem?_eq_getElem ht
  have hd := V.data _ (mem_of_get hb)
  refine Or.inl ?_
  unfold tree_Check_l1
  simp only [idx_ok hb, Option.bind_some]
  rw [dT (by omega), cond_true, w1 (by omega), wI' (x := s - (l[t].Data.length : Int)) (by omega)]
  cases (l[t].Kind == 1) with
  | true =>
   rw [cond_true, dF (by omega)]
   exact ⟨_, rfl, rfl, by simp only; omega, by simp only; omega⟩
  | false => exact ⟨_, rfl, rfl, by simp only; omega, by simp only; omega⟩) (by
  rintro ⟨s, k⟩ ⟨hk, _⟩
  simp only at hk
  subst hk
  unfold tree_Check_l1
  rw [dF (by omega)]
  exact ⟨_, rfl, rfl⟩) (s := (8388608, 0)) ⟨rfl, by simp, by simp⟩
 obtain ⟨r1, e1, rfl⟩ := h1
 rw [e1, bI, e2, Option.bind_some]
 have h3 := loop_inv (body := fun s : Int × ((List TApiEntry) × (List (List UInt8 × Int)) × (List (List UInt8 × Int)) × (List (List UInt8 × Int))) => tree_Check_l2 l s.1 s.2.1 s.2.2.1 s.2.2.2.1 s.2.2.2.2) l.length (fun t s => s = ((t : Int), (l, f, d, n))) (fun r => r = .inl ()) (by
  rintro t s ht rfl
  have hb : l[t]? = some l[t] := List.getElem?_eq_getElem ht
  refine Or.inl ⟨_, ?_, rfl⟩
  unfold tree_Check_l2
  simp only
  rw [dT (by omega), cond_true, checker_ok V H hb, Option.bind_some, w1 (by omega)]
  rfl) (by
  rintro s rfl
  unfold tree_Check_l2
  simp only
  rw [dF (by omega)]
  exact ⟨_, rfl, rfl⟩) (s := ((0 : Int), (l, f, d, n))) rfl
 obtain ⟨r3, e3, rfl⟩ := h3
 simp only
 rw [e3]
 rfl
end Go.Proofs.YtkleajhiihbefaaGreatDoor.F
namespace Go.Proofs.YtkleajhiihbefaaGreatDoor.F
open Go Go.RowKit Go.Proofs.YtkleajhiihbefaaGreatDoor.K Go.Proofs.YtkleajhiihbefaaGreatDoor.K.E
structure STO {α : Type} (lt : α → α → Bool) : Prop where
 irr : ∀ x, lt x x = false
 tr : ∀ x y z, lt x y = true → lt y z = true → lt x z = true
 tot : ∀ x y, lt x y = false → lt y x = false → x = y
theorem STO.ntr {α : Type} {lt : α → α → Bool} (O : STO lt) {x y z : α} (h1 : lt x y = false) (h2 : lt y z = false) : lt x z = false := by
 cases h : lt x z with
 | false => rfl
 | true =>
  cases h3 : lt z y with
  | true => rw [O.tr x z y h h3] at h1; cases h1
  | false => have := O.tot y z h2 h3; subst this; rw [h] at h1; cases h1
def lexB {α : Type} (lt : α → α → Bool) : List α → List α → Bool
 | _, [] => false
 | [], _ :: _ => true
 | a :: l, b :: m => lt a b || (!lt b a && lexB lt l m)
theorem STO.lex {α : Type} {lt : α → α → Bool} (O : STO lt) : STO (lexB lt) where
 irr := by
  intro x
  induction x with
  | nil => rfl
  | cons a l ih => unfold lexB; rw [O.irr a, ih]; rfl
 tr := by
  intro x
  induction x with
  | nil =>
   intro y z h1 h2
   cases z with
   | nil => cases y <;> simp [lexB] at h2
   | cons c z => rfl
  | cons a x ih =>
   intro y z h1 h2
   cases y with
   | nil => simp [lexB] at h1
   | cons b y =>
    cases z with
    | nil => simp [lexB] at h2
    | cons c z =>
     unfold lexB at h1 h2 ⊢
     cases hab : lt a b with
     | true =>
      cases hbc : lt b c with
      | true => rw [O.tr a b c hab hbc]; rfl
      | false =>
       rw [hbc] at h2
       cases hcb : lt c b with
       | true => rw [hcb] at h2; cases h2
       | false => have := O.tot b c hbc hcb; subst this; rw [hab]; rfl
     | false =>
      rw [hab] at h1
      cases hba : lt b a with
      | true => rw [hba] at h1; cases h1
      | false =>
       have := O.tot a b hab hba
       subst this
       rw [hba] at h1
       cases hac : lt a c with
       | true => rfl
       | false =>
        rw [hac] at h2
        cases hca : lt c a with
        | true => rw [hca] at h2; cases h2
        | false =>
         rw [hca] at h2
         have := ih y z (by simpa using h1) (by simpa using h2)
         rw [this]; rfl
 tot := by
  intro x
  induction x with
  | nil =>
   intro y h1 h2
   cases y with
   | nil => rfl
   | cons b y => simp [lexB] at h1
  | cons a x ih =>
   intro y h1 h2
   cases y with
   | nil => simp [lexB] at h2
   | cons b y =>
    unfold lexB at h1 h2
    cases hab : lt a b with
    | true => rw [hab] at h1; cases h1
    | false =>
     cases hba : lt b a with
     | true => rw [hba] at h2; cases h2
     | false =>
      have := O.tot a b hab hba
      subst this
      rw [hba] at h1 h2
      rw [ih y (by simpa using h1) (by simpa using h2)]
def u8lt (a b : UInt8) : Bool := decide (a < b)
theorem u8_sto : STO u8lt where
 irr x := by simp [u8lt]
 tr x y z h1 h2 := by
  unfold u8lt at *
  simp only [decide_eq_true_eq, UInt8.lt_iff_toNat_lt] at *
  omega
 tot x y h1 h2 := by
  unfold u8lt at *
  simp only [decide_eq_false_iff_not, UInt8.lt_iff_toNat_lt] at *
  exact UInt8.toNat_inj.1 (by omega)
theorem ltB_lex : ∀ x y : List UInt8, ltB x y = lexB u8lt x y
 | _, [] => by cases ‹List UInt8› <;> rfl
 | [], _ :: _ => rfl
 | a :: x, b :: y => by
  have ih := ltB_lex x y
  unfold ltB at ih ⊢
  unfold lexB Go.Op.bytesLess
  rw [ih]
  unfold u8lt
  by_cases h1 : a < b
  ·simp [h1]
  ·by_cases h2 : b < a
   ·have : a ≠ b := fun e => by subst e; exact h1 h2
    simp [h1, h2, this]
   ·have : a = b := u8_sto.tot a b (by unfold u8lt; simp [h1]) (by unfold u8lt; simp [h2])
    simp [h1, h2, this]
theorem ltB_sto : STO ltB where
 irr x := by rw [ltB_lex]; exact u8_sto.lex.irr x
 tr x y z := by rw [ltB_lex, ltB_lex, ltB_lex]; exact u8_sto.lex.tr x y z
 tot x y := by rw [ltB_lex, ltB_lex]; exact u8_sto.lex.tot x y
def cmpS (x y : List UInt8) : Int := if ltB x y = true then -1 else if x = y then 0 else 1
theorem cmp_str (x y : List UInt8) : cmp_Compare_string x y = some (cmpS x y) := by
 unfold cmp_Compare_string cmp_isNaN_string cmpS
 rw [show (x != x) = false by simp, show (y != y) = false by simp]
 simp only [Option.bind_some, cond_false]
 cases h : ltB x y with
 | true => rfl
 | false =>
  unfold gtB
  unfold ltB at h
  rw [h]
  by_cases e : x = y
  ·subst e; simp
  ·rw [show (x == y) = false by simpa using e]; simp [e]
theorem cmpS_neg (x y : List UInt8) : decide (cmpS x y < 0) = ltB x y := by
 unfold cmpS
 cases ltB x y with
 | true => rfl
 | false => by_cases e : x = y <;> simp [e]
theorem cmpS_ne (x y : List UInt8) : (cmpS x y != 0) = decide (x ≠ y) := by
 unfold cmpS
 by_cases e : x = y
 ·subst e; rw [ltB_sto.irr]; simp
 ·cases ltB x y <;> simp [e]
def cmpLL : List (List UInt8) → List (List UInt8) → Int
 | [], [] => 0
 | [], _ :: _ => -1
 | _ :: _, [] => 1
 | x :: a, y :: b => if x = y then cmpLL a b else cmpS x y
theorem cmpLL_neg : ∀ a b, decide (cmpLL a b < 0) = lexB ltB a b
 | [], [] => rfl
 | [], _ :: _ => rfl
 | _ :: _, [] => rfl
 | x :: a, y :: b => by
  have ih := cmpLL_neg a b
  unfold cmpLL lexB
  by_cases e : x = y
  ·subst e; rw [if_pos rfl, ltB_sto.irr, ih]; rfl
  ·rw [if_neg e, cmpS_neg]
   cases h1 : ltB x y with
   | true => rfl
   | false =>
    cases h2 : ltB y x with
    | true => rfl
    | false => exact absurd (ltB_sto.tot x y h1 h2) e
theorem name_Order_eq {a b : List (List UInt8)} (ha : a.length ≤ 100000000) (hb : b.length ≤ 100000000) : name_Order a b = some (cmpLL a b) := by
 have key : ∀ (a' b' : List (List UInt8)) (t : Nat), a.length = t + a'.length → b.length = t + b'.length → a.drop t = a' → b.drop t = b' →
   bnd (loopO (fun s => slices_Compare_string_l1 a b s) (t : Int)) (fun _ => cond (decide ((a.length : Int) < (b.length : Int))) (some (-1)) (some 0)) = some (cmpLL a' b') := by
  intro a'
  induction a' with
  | nil =>
   intro b' t h1 h2 h3 h4
   simp only [List.length_nil] at h1
   rw [loop_end (r := .inl ()) (by unfold slices_Compare_string_l1; rw [dF (by omega)]; rfl), bI]
   cases b' with
   | nil => simp only [List.length_nil] at h2; rw [dF (by omega)]; rfl
   | cons y b' => simp only [List.length_cons] at h2; rw [dT (by omega)]; rfl
  | cons x a' ih =>
   intro b' t h1 h2 h3 h4
   simp only [List.length_cons] at h1
   have hx : a[t]? = some x := by
    have := congrArg (·[0]?) h3
    simpa using this
   cases b' with
   | nil =>
    simp only [List.length_nil] at h2
    rw [loop_end (r := .inr 1) (by unfold slices_Compare_string_l1; rw [dT (by omega), idx_ok hx, cond_true, Option.bind_some, dT (by omega)]; rfl), bR]
    rfl
   | cons y b' =>
    simp only [List.length_cons] at h2
    have hy : b[t]? = some y := by
     have := congrArg (·[0]?) h4
     simpa using this
    have hstep : slices_Compare_string_l1 a b (t : Int) = some (if x = y then .inl ((t + 1 : Nat) : Int) else .inr (.inr (cmpS x y))) := by
     unfold slices_Compare_string_l1
     rw [dT (by omega), idx_ok hx, cond_true, Option.bind_some, dF (by omega), cond_false, idx_ok hy, Option.bind_some, cmp_str, Option.bind_some, cmpS_ne, w1 (by omega)]
     by_cases e : x = y
     ·rw [if_pos e, dF (by simpa using e)]; rfl
     ·rw [if_neg e, dT e]; rfl
    unfold cmpLL
    by_cases e : x = y
    ·rw [if_pos e] at hstep ⊢
     rw [loop_next hstep]
     exact ih b' (t + 1) (by omega) (by omega) (by rw [← List.drop_drop, h3]; rfl) (by rw [← List.drop_drop, h4]; rfl)
    ·rw [if_neg e] at hstep ⊢
     rw [loop_end hstep]
     rfl
 unfold name_Order slices_Compare_string
 have := key a b 0 (by omega) (by omega) rfl rfl
 rw [show ((0 : Nat) : Int) = 0 from rfl] at this
 rw [this]
 rfl
theorem sortBy_key {α κ : Type} [DecidableEq α] {cmp : α → α → Option Int} {key : α → κ} {lt : κ → κ → Bool} (O : STO lt) {l : List α} (hl : l.length ≤ 1000000) (hc : ∀ x ∈ l, ∀ y ∈ l, ∃ v, cmp x y = some v ∧ decide (v < 0) = lt (key x) (key y)) (hi : ∀ x ∈ l, ∀ y ∈ l, key x = key y → x = y) : sortBy cmp l = some (isort (ltC cmp) l) := by
 have e : ∀ x ∈ l, ∀ y ∈ l, ltC cmp x y = lt (key x) (key y) := fun x hx y hy => by
  obtain ⟨v, h1, h2⟩ := hc x hx y hy
  unfold ltC
  rw [h1]
  exact h2
 have hs : sortOk cmp l = true := by
  unfold sortOk
  refine List.all_eq_true.2 fun x hx => ?_
  rw [e x hx x hx, O.irr]
  refine List.all_eq_true.2 fun y hy => ?_
  obtain ⟨v, h1, h2⟩ := hc x hx y hy
  rw [h1, e x hx y hy, e y hy x hx]
  simp only [Option.isSome_some, Bool.true_and, Bool.and_eq_true]
  refine ⟨?_, List.all_eq_true.2 fun z hz => ?_⟩
  ·cases g1 : lt (key x) (key y) with
   | true => rfl
   | false =>
    cases g2 : lt (key y) (key x) with
    | true => rfl
    | false => simp [hi x hx y hy (O.tot _ _ g1 g2)]
  ·rw [e y hy z hz, e x hx z hz]
   cases g1 : lt (key x) (key y) with
   | true =>
    cases g2 : lt (key y) (key z) with
    | true => rw [O.tr _ _ _ g1 g2]; rfl
    | false => rfl
   | false =>
    cases g2 : lt (key y) (key z) with
    | true => rfl
    | false => rw [O.ntr g1 g2]; rfl
 unfold sortBy
 rw [hs, show Nat.blt l.length 4611686018427387904 = true by rw [Nat.blt_eq]; omega]
 rfl
noncomputable def cmpA (x y : TApiAttr) : Option Int := tree_attrs_1 x.Name x.Value y.Name y.Value
noncomputable def attrsN (l : List TApiAttr) : List TApiAttr := isort (ltC cmpA) l
theorem attrs_sort {l : List TApiAttr} (hl : l.length ≤ 64) (hd : ∀ (i k : Nat) a b, k < i → l[i]? = some a → l[k]? = some b → b.Name ≠ a.Name) : sortBy cmpA l = some (attrsN l) := sortBy_key (key := fun a : TApiAttr => a.Name) ltB_sto (by omega) (fun x _ y _ => ⟨cmpS x.Name y.Name, by unfold cmpA tree_attrs_1; rw [cmp_str]; rfl, cmpS_neg _ _⟩) (fun x hx y hy e => by
  obtain ⟨i, hi⟩ := get_of_mem hx
  obtain ⟨k, hk⟩ := get_of_mem hy
  rcases Nat.lt_trichotomy i k with h | h | h
  ·exact absurd e (hd k i y x h hk hi)
  ·subst h; rw [hi] at hk; cases hk; rfl
  ·exact absurd e.symm (hd i k x y h hi hk))
theorem attrsN_len (l : List TApiAttr) : (attrsN l).length = l.length := (isort_perm _ _).length_eq
theorem tree_attrs_eq {l : List TApiAttr} (hl : l.length ≤ 64) (hv : ∀ a ∈ l, a.Value.length ≤ 4096) (hd : ∀ (i k : Nat) a b, k < i → l[i]? = some a → l[k]? = some b → b.Name ≠ a.Name) : tree_attrs l = some (attrsN l) := by
 unfold tree_attrs
 have := loop_inv (body := fun s : List TApiAttr × Int => tree_attrs_l1 l s.1 s.2) l.length (fun t s => s.2 = (t : Int) ∧ s.1 = l.take t) (fun r => r = .inl l) (by
  rintro t ⟨o, k⟩ ht ⟨hk, ho⟩
  simp only at hk ho
  subst hk
  subst o
  have hx : l[t]? = some l[t] := List.getElem?_eq_getElem ht
  have hvx := hv _ (mem_of_get hx)
  refine Or.inl ⟨(l.take t ++ [l[t]], ((t + 1 : Nat) : Int)), ?_, rfl, ?_⟩
  ·unfold tree_attrs_l1 bytes_Clone
   simp only
   rw [dT (by omega), idx_ok hx, cond_true, Option.bind_some, app_ok (by simp; omega), Option.bind_some, app_one (by rw [List.length_take]; omega), Option.bind_some, w1 (by omega)]
   rfl
  ·rw [List.take_add_one, hx]; rfl) (by
  rintro ⟨o, k⟩ ⟨hk, ho⟩
  simp only at hk ho
  subst hk
  subst o
  unfold tree_attrs_l1
  simp only
  rw [dF (by omega)]
  exact ⟨_, rfl, by rw [List.take_length]⟩) (s := ([], 0)) ⟨rfl, rfl⟩
 obtain ⟨r, e1, rfl⟩ := this
 rw [e1, bI]
 have hs : sort_Attr l = some (attrsN l) := attrs_sort hl hd
 rw [hs]
 rfl
def trimN : List UInt8 → List UInt8
 | [] => []
 | c :: s => match trimN s with
  | [] => if c = 0 then [] else [c]
  | d :: r => c :: d :: r
theorem trimN_zero : ∀ s : List UInt8, trimN (s ++ [0]) = trimN s
 | [] => rfl
 | c :: s => by
  have ih := trimN_zero s
  rw [List.cons_append]
  unfold trimN
  rw [ih]
theorem trimN_snoc {c : UInt8} (h : c ≠ 0) : ∀ s : List UInt8, trimN (s ++ [c]) = s ++ [c]
 | [] => by unfold trimN; simp [trimN, h]
 | d :: s => by
  have ih := trimN_snoc h s
  rw [List.cons_append]
  unfold trimN
  rw [ih]
  cases s <;> rfl
theorem trimN_len : ∀ s : List UInt8, (trimN s).length ≤ s.length
 | [] => Nat.le_refl _
 | c :: s => by
  have ih := trimN_len s
  unfold trimN
  split
  ·split <;> simp
  ·rename_i d r e
   rw [e] at ih
   simp only [List.length_cons] at ih ⊢
   omega
theorem snoc_of {α : Type} {s : List α} {n : Nat} (h : s.length = n + 1) : ∃ c, s[n]? = some c ∧ s = s.take n ++ [c] := by
 have hn : n < s.length := by omega
 refine ⟨s[n], List.getElem?_eq_getElem hn, ?_⟩
 have := List.take_add_one (l := s) (i := n)
 rw [List.getElem?_eq_getElem hn] at this
 rw [← h, List.take_length] at this
 exact this
theorem trimN_idem (s : List UInt8) : trimN (trimN s) = trimN s := by
 have : ∀ n (s : List UInt8), s.length = n → trimN (trimN s) = trimN s := by
  intro n
  induction n with
  | zero => intro s h; have := List.eq_nil_of_length_eq_zero h; subst this; rfl
  | succ n ih =>
   intro s h
   obtain ⟨c, _, e⟩ := snoc_of h
   by_cases hc : c = 0
   ·rw [e, hc, trimN_zero]
    exact ih _ (by rw [List.length_take]; omega)
   ·rw [e, trimN_snoc hc, trimN_snoc hc]
 exact this _ s rfl
theorem trim_eq (s : List UInt8) (hl : s.length ≤ 100000000) : bytes_TrimRight s = some (trimN s) := by
 unfold bytes_TrimRight
 by_cases h : s = []
 ·subst h; rfl
 ·have hp := List.length_pos_iff.2 h
  rw [show ((s.length : Int) == 0) = false by simp [h]]
  simp only [cond_false, bI]
  unfold bytes_trimRightByte
  have : ∀ n (b : List UInt8), b.length = n → b.length ≤ s.length → loopO (fun x => bytes_trimRightByte_l1 0 x) b = some (.inl (trimN b)) := by
   intro n
   induction n with
   | zero =>
    intro b h1 h2
    have := List.eq_nil_of_length_eq_zero h1
    subst this
    exact loop_end (by unfold bytes_trimRightByte_l1; rw [dF (by simp)]; rfl)
   | succ n ih =>
    intro b h1 h2
    obtain ⟨c, hx, e⟩ := snoc_of h1
    have hw : IntKind.i64.wrap ((b.length : Int) - 1) = (n : Int) := by rw [wI' (by omega)]; omega
    by_cases hc : c = 0
    ·subst hc
     have e2 : trimN b = trimN (b.take n) := by conv => lhs; rw [e, trimN_zero]
     rw [e2, ← ih (b.take n) (by rw [List.length_take]; omega) (by rw [List.length_take]; omega)]
     refine loop_next ?_
     unfold bytes_trimRightByte_l1
     rw [dT (by omega), hw, idx_ok hx, cond_true, Option.bind_some, slc_ok (by omega)]
     simp
    ·have e2 : trimN b = b := by (conv => lhs; rw [e, trimN_snoc hc]); exact e.symm
     rw [e2]
     refine loop_end ?_
     unfold bytes_trimRightByte_l1
     rw [dT (by omega), hw, idx_ok hx, cond_true, Option.bind_some, show ((c.toNat : Int) == ((0 : UInt8).toNat : Int)) = false by
      rw [show (((0 : UInt8).toNat : Int)) = 0 from rfl, u8_0, dF hc]]
     rfl
  rw [this s.length s rfl (Nat.le_refl _)]
  rfl
abbrev NTup := (Int × Int × Int × Int × Int × Int × (List UInt8) × (List UInt8) × Int × (List TApiAttr) × (List TApiKid) × Int × Int)
def mkN (r : NTup) : TApiNode := { ({ Kind := r.1, Mode := r.2.1, Uid := r.2.2.1, Gid := r.2.2.2.1, Time := r.2.2.2.2.1, Size := r.2.2.2.2.2.1, Data := r.2.2.2.2.2.2.1, Target := r.2.2.2.2.2.2.2.1, Dev := r.2.2.2.2.2.2.2.2.1, Attrs := r.2.2.2.2.2.2.2.2.2.1, Kids := [], Parent := r.2.2.2.2.2.2.2.2.2.2.2.1, Links := r.2.2.2.2.2.2.2.2.2.2.2.2 } : TApiNode) with Kids := r.2.2.2.2.2.2.2.2.2.2.1 }
noncomputable def nodeV (x1 x2 x3 x4 x5 x6 : Int) (x7 x8 : List UInt8) (x9 : Int) (x10 : List TApiAttr) : TApiNode :=
 {Kind := x1, Mode := x2, Uid := x3, Gid := x4, Time := x5, Size := if x1 = 1 then x6 else 0, Data := if x1 = 1 then trimN x7 else [], Target := if x1 = 3 then x8 else [], Dev := if x1 = 1 ∨ x1 = 2 ∨ x1 = 3 then 0 else x9, Attrs := attrsN x10, Kids := [], Parent := 0, Links := if x1 = 2 then 2 else 0 }
theorem tree_node_eq (x : List UInt8) {x1 x2 x3 x4 x5 x6 x7 x8 x9 x10} (h : FOk x1 x2 x3 x4 x5 x6 x7 x8 x9 x10) (hd : x7.length ≤ 80000) : ∃ r : NTup, tree_node x x1 x2 x3 x4 x5 x6 x7 x8 x9 x10 = some r ∧ (mkN r).Attrs.length ≤ 64 ∧ (mkN r).Kids = [] ∧ mkN r = nodeV x1 x2 x3 x4 x5 x6 x7 x8 x9 x10 := by
 have e1 := tree_attrs_eq h.al (fun a ha => (h.av a ha).2) h.ad
 have e2 := attrsN_len x10
 have hal := h.al
 unfold tree_node
 rw [dup_eq, e1, Option.bind_some, bI]
 simp only
 by_cases h1 : x1 = 1
 ·have e4 := trimN_len x7
  rw [show (x1 == 1) = true by simpa using h1, cond_true, trim_eq x7 (by omega), Option.bind_some]
  unfold bytes_Clone
  rw [app_ok (by simp; omega)]
  exact ⟨_, rfl, by simp only [mkN]; omega, rfl, by simp [mkN, nodeV, h1]⟩
 rw [show (x1 == 1) = false by simpa using h1, cond_false]
 by_cases h2 : x1 = 2
 ·rw [show (x1 == 2) = true by simpa using h2]
  exact ⟨_, rfl, by simp only [mkN]; omega, rfl, by simp [mkN, nodeV, h2]⟩
 rw [show (x1 == 2) = false by simpa using h2, cond_false]
 by_cases h3 : x1 = 3
 ·rw [show (x1 == 3) = true by simpa using h3]
  exact ⟨_, rfl, by simp only [mkN]; omega, rfl, by simp [mkN, nodeV, h3]⟩
 rw [show (x1 == 3) = false by simpa using h3]
 exact ⟨_, rfl, by simp only [mkN]; omega, rfl, by simp [mkN, nodeV, h1, h2, h3]⟩
theorem joinP_cons {c : UInt8} {p : List UInt8} {r : List (List UInt8)} : joinP ((c :: p) :: r) = c :: joinP (p :: r) := by
 cases r with
 | nil => rfl
 | cons q r => rfl
theorem joinP_spl : ∀ x : List UInt8, joinP (spl x) = x
 | [] => rfl
 | c :: s => by
  have ih := joinP_spl s
  rw [spl_cons]
  cases hs : spl s with
  | nil => exact absurd hs (spl_ne s)
  | cons p r =>
   rw [hs] at ih
   by_cases h : c = 47
   ·subst h
    rw [if_pos rfl]
    show joinP ([] :: p :: r) = _
    unfold joinP
    rw [ih]
    rfl
   ·rw [if_neg h]
    simp only
    rw [joinP_cons, ih]
theorem spl_inj {x y : List UInt8} (h : spl x = spl y) : x = y := by rw [← joinP_spl x, h, joinP_spl]
def nm (e : TApiEntry) : TTreeNamed := { f_parts := spl e.Path, f_path := e.Path, f_of := if e.Kind = 6 then e.Target else e.Path }
def namesU (l : List TApiEntry) : List TTreeNamed := (l.filter (fun e => e.Path != [])).map nm
noncomputable def cmpN (x y : TTreeNamed) : Option Int := tree_names_1 x.f_parts x.f_path x.f_of y.f_parts y.f_path y.f_of
theorem namesU_mem {l : List TApiEntry} {n : TTreeNamed} (h : n ∈ namesU l) : ∃ e ∈ l, e.Path ≠ [] ∧ n = nm e := by
 unfold namesU at h
 obtain ⟨e, h1, rfl⟩ := List.mem_map.1 h
 obtain ⟨h2, h3⟩ := List.mem_filter.1 h1
 exact ⟨e, h2, by simpa using h3, rfl⟩
theorem VE.inj {l : List TApiEntry} (V : VE l) {x y : TApiEntry} (hx : x ∈ l) (hy : y ∈ l) (h : x.Path = y.Path) : x = y := by
 obtain ⟨i, hi⟩ := get_of_mem hx
 obtain ⟨k, hk⟩ := get_of_mem hy
 rcases Nat.lt_trichotomy i k with g | g | g
 ·exact absurd h ((V.ents k y hk).dist i x g hi)
 ·subst g; rw [hi] at hk; cases hk; rfl
 ·exact absurd h.symm ((V.ents i x hi).dist k y g hk)
structure PE (l : List TApiEntry) : Prop where
 len : l.length ≤ 300
 pth : ∀ e ∈ l, e.Path ≠ [] → e.Path.length ≤ 4096 ∧ (∀ p ∈ spl e.Path, vN p = true) ∧ (spl e.Path).length ≤ 64
 dist : ∀ (i : Nat) (e : TApiEntry), l[i]? = some e → ∀ (k : Nat) (y : TApiEntry), k < i → l[k]? = some y → y.Path ≠ e.Path
theorem VE.pe {l : List TApiEntry} (V : VE l) : PE l where
 len := Nat.le_trans V.len (by decide)
 pth e he hn := by
  obtain ⟨i, hi⟩ := get_of_mem he
  rcases (V.ents i e hi).path with h | h
  ·exact absurd h.1 hn
  ·exact h.2
 dist i e h := (V.ents i e h).dist
theorem PE.inj {l : List TApiEntry} (V : PE l) {x y : TApiEntry} (hx : x ∈ l) (hy : y ∈ l) (h : x.Path = y.Path) : x = y := by
 obtain ⟨i, hi⟩ := get_of_mem hx
 obtain ⟨k, hk⟩ := get_of_mem hy
 rcases Nat.lt_trichotomy i k with g | g | g
 ·exact absurd h (V.dist k y hk i x g hi)
 ·subst g; rw [hi] at hk; cases hk; rfl
 ·exact absurd h.symm (V.dist i x hi k y g hk)
theorem cmpN_okP {l : List TApiEntry} (V : PE l) : ∀ x ∈ namesU l, ∀ y ∈ namesU l, ∃ v, cmpN x y = some v ∧ decide (v < 0) = lexB ltB x.f_parts y.f_parts := by
 intro x hx y hy
 obtain ⟨e, he, hne, rfl⟩ := namesU_mem hx
 obtain ⟨f, hf, hnf, rfl⟩ := namesU_mem hy
 have hp : ∀ e ∈ l, e.Path ≠ [] → (spl e.Path).length ≤ 100000000 := fun e he hn => by
  have := (V.pth e he hn).2.2
  omega
 exact ⟨_, by unfold cmpN tree_names_1; rw [show (nm e).f_parts = spl e.Path from rfl, show (nm f).f_parts = spl f.Path from rfl, name_Order_eq (hp e he hne) (hp f hf hnf)]; rfl, cmpLL_neg _ _⟩
theorem cmpN_ok {l : List TApiEntry} (V : VE l) : ∀ x ∈ namesU l, ∀ y ∈ namesU l, ∃ v, cmpN x y = some v ∧ decide (v < 0) = lexB ltB x.f_parts y.f_parts := cmpN_okP V.pe
theorem namesU_injP {l : List TApiEntry} (V : PE l) : ∀ x ∈ namesU l, ∀ y ∈ namesU l, x.f_parts = y.f_parts → x = y := by
 intro x hx y hy h
 obtain ⟨e, he, _, rfl⟩ := namesU_mem hx
 obtain ⟨f, hf, _, rfl⟩ := namesU_mem hy
 rw [V.inj he hf (spl_inj h)]
theorem namesU_inj {l : List TApiEntry} (V : VE l) : ∀ x ∈ namesU l, ∀ y ∈ namesU l, x.f_parts = y.f_parts → x = y := namesU_injP V.pe
theorem tree_names_eq {l : List TApiEntry} (V : VE l) : tree_names l = some (isort (ltC cmpN) (namesU l)) ∧ sortBy cmpN (namesU l) = some (isort (ltC cmpN) (namesU l)) := by
 have hl := V.len
 have hnl : (namesU l).length ≤ 90 := by
  unfold namesU
  rw [List.length_map]
  exact Nat.le_trans (List.length_filter_le _ _) hl
 have hs : sortBy cmpN (namesU l) = some (isort (ltC cmpN) (namesU l)) := sortBy_key (key := fun n : TTreeNamed => n.f_parts) ltB_sto.lex (by omega) (cmpN_ok V) (namesU_inj V)
 refine ⟨?_, hs⟩
 unfold tree_names
 have := loop_inv (body := fun s : List TTreeNamed × Int => tree_names_l1 l s.1 s.2) l.length (fun t s => s.2 = (t : Int) ∧ s.1 = namesU (l.take t)) (fun r => r = .inl (namesU l)) (by
  rintro t ⟨o, k⟩ ht ⟨hk, ho⟩
  simp only at hk ho
  subst hk
  subst o
  have hx : l[t]? = some l[t] := List.getElem?_eq_getElem ht
  have hpl := PathOk.len (V.ents t _ hx).path
  have htk : namesU (l.take (t + 1)) = namesU (l.take t) ++ (if l[t].Path = [] then [] else [nm l[t]]) := by
   unfold namesU
   rw [List.take_add_one, hx, List.filter_append, List.map_append]
   congr 1
   by_cases h : l[t].Path = []
   ·simp [h]
   ·simp [h]
  have hlen : (namesU (l.take t)).length ≤ 100 := by
   unfold namesU
   rw [List.length_map]
   have := List.length_filter_le (fun e : TApiEntry => e.Path != []) (l.take t)
   rw [List.length_take] at this
   omega
  refine Or.inl ?_
  unfold tree_names_l1
  simp only
  rw [dT (by omega), idx_ok hx, cond_true, Option.bind_some, w1 (by omega)]
  by_cases h : l[t].Path = []
  ·rw [show (l[t].Path == []) = true by simpa using h]
   exact ⟨_, rfl, rfl, by rw [htk, if_pos h, List.append_nil]⟩
  ·rw [show (l[t].Path == []) = false by simpa using h, cond_false, dup_eq, strings_Split_eq (by omega), Option.bind_some, bI]
   simp only
   rw [app_one (by omega), app_one (by omega)]
   by_cases h6 : l[t].Kind = 6
   ·rw [show (l[t].Kind == 6) = true by simpa using h6]
    exact ⟨_, rfl, rfl, by rw [htk, if_neg h]; simp [nm, h6]⟩
   ·rw [show (l[t].Kind == 6) = false by simpa using h6]
    exact ⟨_, rfl, rfl, by rw [htk, if_neg h]; simp [nm, h6]⟩) (by
  rintro ⟨o, k⟩ ⟨hk, ho⟩
  simp only at hk ho
  subst hk
  subst o
  unfold tree_names_l1
  simp only
  rw [dF (by omega)]
  exact ⟨_, rfl, by rw [List.take_length]⟩) (s := ([], 0)) ⟨rfl, rfl⟩
 obtain ⟨r, e1, rfl⟩ := this
 rw [e1, bI]
 have hs' : sort_Named (namesU l) = some (isort (ltC cmpN) (namesU l)) := hs
 rw [hs']
 rfl
end Go.Proofs.YtkleajhiihbefaaGreatDoor.F
namespace Go.Proofs.YtkleajhiihbefaaGreatDoor.F
open Go Go.RowKit Go.Proofs.YtkleajhiihbefaaGreatDoor.K Go.Proofs.YtkleajhiihbefaaGreatDoor.K.E
abbrev Inos := List (List UInt8 × Int)
def dN : TApiNode := { Kind := 0, Mode := 0, Uid := 0, Gid := 0, Time := 0, Size := 0, Data := [], Target := [], Dev := 0, Attrs := [], Kids := [], Parent := 0, Links := 0 }
def c1 (nd : List UInt8 → TApiNode) (inos : Inos) (b : List TApiNode) (n : TTreeNamed) : Inos × Int × List TApiNode := if (mget inos n.f_of).isSome then (inos, (mget inos n.f_of).getD 0, b) else (mput inos n.f_of (b.length : Int), (b.length : Int), b ++ [nd n.f_of])
def parO (j : Inos) (n : TTreeNamed) : Int := (mget j (upP n.f_path)).getD 0
def lastO (n : TTreeNamed) : List UInt8 := (n.f_parts[n.f_parts.length - 1]?).getD []
def c2 (j : Inos × Int × List TApiNode) (n : TTreeNamed) : List TApiNode := j.2.2.set (parO j.1 n).toNat { (j.2.2[(parO j.1 n).toNat]?).getD dN with Kids := ((j.2.2[(parO j.1 n).toNat]?).getD dN).Kids ++ [({ Name := lastO n, Ino := j.2.1 } : TApiKid)] }
def putPar (x : TApiNode) (p : Int) : TApiNode := { Kind := x.Kind, Mode := x.Mode, Uid := x.Uid, Gid := x.Gid, Time := x.Time, Size := x.Size, Data := x.Data, Target := x.Target, Dev := x.Dev, Attrs := x.Attrs, Kids := x.Kids, Parent := p, Links := x.Links }
def putLinks (x : TApiNode) : TApiNode := { Kind := x.Kind, Mode := x.Mode, Uid := x.Uid, Gid := x.Gid, Time := x.Time, Size := x.Size, Data := x.Data, Target := x.Target, Dev := x.Dev, Attrs := x.Attrs, Kids := x.Kids, Parent := x.Parent, Links := IntKind.i64.wrap (x.Links + 1) }
def c3 (b2 : List TApiNode) (ino par : Int) : List TApiNode :=
 let x := (b2[ino.toNat]?).getD dN
 if x.Kind = 2 then
  let b3 := b2.set ino.toNat (putPar x par)
  b3.set par.toNat (putLinks ((b3[par.toNat]?).getD dN))
 else b2.set ino.toNat (putLinks x)
def cstep (nd : List UInt8 → TApiNode) (s : Inos × List TApiNode) (n : TTreeNamed) : Inos × List TApiNode :=
 let j := c1 nd s.1 s.2 n
 (j.1, c3 (c2 j n) j.2.1 (parO j.1 n))
structure CInv (t : Nat) (inos : Inos) (b : List TApiNode) : Prop where
 pos : 1 ≤ b.length
 len : b.length ≤ t + 1
 ino : ∀ K v, mget inos K = some v → 0 ≤ v ∧ v < b.length
 nod : ∀ x ∈ b, x.Kids.length ≤ t ∧ x.Attrs.length ≤ 64
theorem bnd_of {σ ρ : Type} {x : Option (Sum σ ρ)} {k : σ → Option ρ} {s : σ} (h : x = some (.inl s)) : bnd x k = k s := by rw [h, bI]
theorem chk_same (a : Int) : chk (decide (a = a)) = some () := by rw [dT rfl]; rfl
theorem mem_set' {α : Type} {l : List α} {i : Nat} {a x : α} (h : x ∈ l.set i a) : x ∈ l ∨ x = a := List.mem_or_eq_of_mem_set h
theorem get_getD {l : List TApiNode} {v : Int} (h0 : 0 ≤ v) (h1 : v < l.length) : idx l v = some ((l[v.toNat]?).getD dN) ∧ (l[v.toNat]?).getD dN ∈ l := by
 obtain ⟨n, rfl⟩ : ∃ n : Nat, v = (n : Int) := ⟨v.toNat, by omega⟩
 have hn : n < l.length := by omega
 rw [idx_nat, Int.toNat_natCast, List.getElem?_eq_getElem hn]
 exact ⟨rfl, List.getElem_mem hn⟩
theorem c1_inv {t : Nat} {inos : Inos} {b : List TApiNode} (H : CInv t inos b) (nd : List UInt8 → TApiNode) (n : TTreeNamed) (hnd : (nd n.f_of).Attrs.length ≤ 64 ∧ (nd n.f_of).Kids = []) : let j := c1 nd inos b n
  1 ≤ j.2.2.length ∧ j.2.2.length ≤ t + 2 ∧ (∀ K v, mget j.1 K = some v → 0 ≤ v ∧ v < j.2.2.length) ∧ (∀ x ∈ j.2.2, x.Kids.length ≤ t ∧ x.Attrs.length ≤ 64) ∧ 0 ≤ j.2.1 ∧ j.2.1 < j.2.2.length := by
 have hl := H.len
 have hp := H.pos
 intro j
 show 1 ≤ (c1 nd inos b n).2.2.length ∧ (c1 nd inos b n).2.2.length ≤ t + 2 ∧ (∀ K v, mget (c1 nd inos b n).1 K = some v → 0 ≤ v ∧ v < (c1 nd inos b n).2.2.length) ∧ (∀ x ∈ (c1 nd inos b n).2.2, x.Kids.length ≤ t ∧ x.Attrs.length ≤ 64) ∧ 0 ≤ (c1 nd inos b n).2.1 ∧ (c1 nd inos b n).2.1 < (c1 nd inos b n).2.2.length
 unfold c1
 cases hK : mget inos n.f_of with
 | some v =>
  have := H.ino _ _ hK
  exact ⟨hp, by simp only [Option.isSome_some, if_true]; omega, H.ino, H.nod, this.1, this.2⟩
 | none =>
  simp only [Option.isSome_none, Bool.false_eq_true, if_false, List.length_append, List.length_cons, List.length_nil]
  refine ⟨by omega, by omega, fun K v hv => ?_, fun x hx => ?_, by omega, by omega⟩
  ·rw [mget_put] at hv
   split at hv
   ·cases hv; exact ⟨by omega, by omega⟩
   ·have := H.ino K v hv; omega
  ·rcases List.mem_append.1 hx with h | h
   ·exact H.nod x h
   ·simp only [List.mem_cons, List.mem_nil_iff, or_false] at h
    subst h
    rw [hnd.2]
    exact ⟨Nat.zero_le _, hnd.1⟩
theorem par_ok {j : Inos} {b : List TApiNode} (hp : 1 ≤ b.length) (h : ∀ K v, mget j K = some v → 0 ≤ v ∧ v < b.length) (n : TTreeNamed) : 0 ≤ parO j n ∧ parO j n < b.length := by
 unfold parO
 cases hK : mget j (upP n.f_path) with
 | none => simp only [Option.getD_none]; omega
 | some v => exact h _ _ hK
theorem cstep_inv {t : Nat} {inos : Inos} {b : List TApiNode} (H : CInv t inos b) (nd : List UInt8 → TApiNode) (n : TTreeNamed) (hnd : (nd n.f_of).Attrs.length ≤ 64 ∧ (nd n.f_of).Kids = []) : CInv (t + 1) (cstep nd (inos, b) n).1 (cstep nd (inos, b) n).2 := by
 have hj := c1_inv H nd n hnd
 unfold cstep
 simp only at hj ⊢
 generalize c1 nd inos b n = j at hj ⊢
 obtain ⟨h1, h2, h3, h4, h5, h6⟩ := hj
 obtain ⟨p1, p2⟩ := par_ok h1 h3 n
 have hlen2 : (c2 j n).length = j.2.2.length := by unfold c2; rw [List.length_set]
 have hn2 : ∀ x ∈ c2 j n, x.Kids.length ≤ t + 1 ∧ x.Attrs.length ≤ 64 := fun x hx => by
  unfold c2 at hx
  rcases mem_set' hx with h | rfl
  ·have := h4 x h; omega
  ·have := h4 _ (get_getD p1 p2).2
   simp only [List.length_append, List.length_cons, List.length_nil]
   omega
 have hlen3 : (c3 (c2 j n) j.2.1 (parO j.1 n)).length = j.2.2.length := by
  unfold c3
  simp only
  split <;> simp only [List.length_set, hlen2]
 refine ⟨by omega, by omega, fun K v hv => by rw [hlen3]; exact h3 K v hv, fun x hx => ?_⟩
 unfold c3 at hx
 simp only at hx
 have hx0 := hn2 _ (get_getD (l := c2 j n) h5 (by rw [hlen2]; exact h6)).2
 split at hx
 ·have h3' : ∀ x ∈ (c2 j n).set j.2.1.toNat (putPar (((c2 j n)[j.2.1.toNat]?).getD dN) (parO j.1 n)), x.Kids.length ≤ t + 1 ∧ x.Attrs.length ≤ 64 := fun x hx => by
   rcases mem_set' hx with h | rfl
   ·exact hn2 x h
   ·exact hx0
  rcases mem_set' hx with h | rfl
  ·exact h3' x h
  ·have h9 := h3' _ (get_getD (l := (c2 j n).set j.2.1.toNat (putPar (((c2 j n)[j.2.1.toNat]?).getD dN) (parO j.1 n))) p1 (by rw [List.length_set, hlen2]; exact p2)).2
   exact h9
 ·rcases mem_set' hx with h | rfl
  ·exact hn2 x h
  ·exact hx0
theorem canon_body {l : List TApiEntry} {r1 : (List TApiEntry) × Inos × Inos × Inos} {r4 : List TTreeNamed} {t : Nat} {inos : Inos} {b : List TApiNode} (H : CInv t inos b) (ht : t ≤ 1000) {n : TTreeNamed} (hn : r4[t]? = some n) {nd : List UInt8 → TApiNode} (hnd : (nd n.f_of).Attrs.length ≤ 64 ∧ (nd n.f_of).Kids = [])
  {i : Nat} {e : TApiEntry} (hf : mget r1.2.1 n.f_of = some (i : Int)) (he : l[i]? = some e) {r5 : NTup} (hr : tree_node e.Path e.Kind e.Mode e.Uid e.Gid e.Time e.Size e.Data e.Target e.Dev e.Attrs = some r5) (hm : nd n.f_of = mkN r5) (hp : 1 ≤ n.f_parts.length) (hp2 : n.f_parts.length ≤ 100000) (hpl : n.f_path.length ≤ 4096) :
  tree_Canon_l1 l r1 r4 inos (t : Int) b = some (.inl ((cstep nd (inos, b) n).1, ((t + 1 : Nat) : Int), (cstep nd (inos, b) n).2)) := by
 have hlt := lt_of_get hn
 have hj := c1_inv H nd n hnd
 unfold tree_Canon_l1 cstep
 simp only at hj ⊢
 by_cases hcut : (t : Int) < (r4.length : Int)
 rotate_left
 ·omega
 rw [dT hcut, cond_true, idx_ok hn, Option.bind_some, Option.bind_some]
 have hbl := H.len
 refine (bnd_of (s := c1 nd inos b n) ?_).trans ?_
 ·unfold c1
  cases hK : mget inos n.f_of with
  | some v => rfl
  | none =>
   simp only [Option.isSome_none, Bool.not_false, cond_true, Bool.false_eq_true, if_false]
   rw [hf]
   simp only [Option.getD_some, idx_ok he, Option.bind_some, hr, dup_eq, fork_same]
   rw [app_one (by omega), Option.bind_some, bI, hm]
   rfl
 generalize c1 nd inos b n = j at hj ⊢
 obtain ⟨h1, h2, h3, h4, h5, h6⟩ := hj
 obtain ⟨p1, p2⟩ := par_ok h1 h3 n
 obtain ⟨g1, g2⟩ := get_getD p1 p2
 rw [tree_above_eq (by omega), Option.bind_some]
 have hpar : (mget j.1 (upP n.f_path)).getD 0 = parO j.1 n := rfl
 simp only [hpar]
 have hlast : idx n.f_parts (IntKind.i64.wrap ((n.f_parts.length : Int) - 1)) = some (lastO n) := by
  rw [wI' (by omega), show (n.f_parts.length : Int) - 1 = ((n.f_parts.length - 1 : Nat) : Int) by omega, idx_nat]
  unfold lastO
  rw [List.getElem?_eq_getElem (by omega)]
  rfl
 refine (bnd_of (s := c2 j n) ?_).trans ?_
 ·simp only [hlast, Option.bind_some, g1, dup_eq, chk_same, fork_same]
  rw [app_one (by have := (h4 _ g2).1; omega)]
  rfl
 have hlen2 : (c2 j n).length = j.2.2.length := by unfold c2; rw [List.length_set]
 generalize c2 j n = b2 at hlen2 ⊢
 obtain ⟨k1, k2⟩ := get_getD (l := b2) h5 (by rw [hlen2]; exact h6)
 obtain ⟨q1, q2⟩ := get_getD (l := b2.set j.2.1.toNat (putPar ((b2[j.2.1.toNat]?).getD dN) (parO j.1 n))) p1 (by rw [List.length_set, hlen2]; exact p2)
 simp only [k1, Option.bind_some]
 unfold c3
 simp only
 rw [w1 (by omega)]
 by_cases hk : ((b2[j.2.1.toNat]?).getD dN).Kind = 2
 ·rw [if_pos hk, show (((b2[j.2.1.toNat]?).getD dN).Kind == 2) = true by simpa using hk, cond_true]
  unfold putPar at q1
  simp only [q1, Option.bind_some]
  rfl
 ·rw [if_neg hk, show (((b2[j.2.1.toNat]?).getD dN).Kind == 2) = false by simpa using hk, cond_false]
  rfl
noncomputable def nodeE (e : TApiEntry) : Option NTup := tree_node e.Path e.Kind e.Mode e.Uid e.Gid e.Time e.Size e.Data e.Target e.Dev e.Attrs
noncomputable def nodeN (e : TApiEntry) : TApiNode := nodeV e.Kind e.Mode e.Uid e.Gid e.Time e.Size e.Data e.Target e.Dev e.Attrs
def dT0 : NTup := (0, 0, 0, 0, 0, 0, [], [], 0, [], [], 0, 0)
def dE : TApiEntry := { Path := [], Kind := 2, Mode := 493, Uid := 0, Gid := 0, Time := 0, Size := 0, Data := [], Target := [], Dev := 0, Attrs := [] }
noncomputable def ndOf (l : List TApiEntry) (K : List UInt8) : TApiNode := mkN ((nodeE ((l.find? (fun e => e.Path == K)).getD dE)).getD dT0)
def tupE (e : TApiEntry) := (e.Path, e.Kind, e.Mode, e.Uid, e.Gid, e.Time, e.Size, e.Data, e.Target, e.Dev, e.Attrs)
def rootE (l : List TApiEntry) : TApiEntry := if ixI (fun e : TApiEntry => e.Path == []) l < 0 then dE else (l[(ixI (fun e : TApiEntry => e.Path == []) l).toNat]?).getD dE
theorem tree_root_eq {l : List TApiEntry} (hl : l.length ≤ 90) : tree_root l = some (tupE (rootE l)) ∧ (rootE l = dE ∨ (rootE l ∈ l ∧ (rootE l).Path = [])) := by
 have hix : slices_IndexFunc_Entry l = some (ixI (fun e : TApiEntry => e.Path == []) l) := by
  unfold slices_IndexFunc_Entry
  refine loop_ix l _ (fun t => (t : Int)) _ (fun t x hx => ?_) ?_
  ·have := lt_of_get hx
   unfold slices_IndexFunc_Entry_l1 tree_root_1
   rw [dT (by omega), idx_ok hx, cond_true, Option.bind_some, Option.bind_some, w1 (by omega)]
   cases x.Path == [] <;> rfl
  ·unfold slices_IndexFunc_Entry_l1
   rw [dF (by omega)]
   rfl
 unfold tree_root rootE
 rw [hix, Option.bind_some]
 by_cases h : ixI (fun e : TApiEntry => e.Path == []) l = -1
 ·rw [h]
  exact ⟨rfl, Or.inl rfl⟩
 ·obtain ⟨t, x, h1, h2, h3⟩ := ixI_pos h
  rw [h1, dF (by omega), if_neg (by omega), idx_ok h2, Int.toNat_natCast, h2]
  exact ⟨rfl, Or.inr ⟨mem_of_get h2, by simpa using h3⟩⟩
theorem dE_ok : FOk dE.Kind dE.Mode dE.Uid dE.Gid dE.Time dE.Size dE.Data dE.Target dE.Dev dE.Attrs where
 m := by decide
 u := by decide
 g := by decide
 t := by decide
 sz h := by cases h
 tg h := by cases h
 dv h := by revert h; decide
 al := by decide
 av a h := by cases h
 ad i k a b _ h := by simp [dE] at h
theorem VE.node {l : List TApiEntry} (V : VE l) {e : TApiEntry} (he : e ∈ l) (h6 : e.Kind ≠ 6) : ∃ r, nodeE e = some r ∧ (mkN r).Attrs.length ≤ 64 ∧ (mkN r).Kids = [] ∧ mkN r = nodeN e := by
 obtain ⟨i, hi⟩ := get_of_mem he
 exact tree_node_eq e.Path ((V.ents i e hi).flds h6) (V.data e he)
theorem VE.root {l : List TApiEntry} (V : VE l) : ∃ r, nodeE (rootE l) = some r ∧ (mkN r).Attrs.length ≤ 64 ∧ (mkN r).Kids = [] ∧ mkN r = nodeN (rootE l) := by
 rcases (tree_root_eq V.len).2 with h | ⟨h1, h2⟩
 ·rw [h]; exact tree_node_eq dE.Path dE_ok (by decide)
 ·refine V.node h1 ?_
  obtain ⟨i, hi⟩ := get_of_mem h1
  rcases (V.ents i _ hi).path with ⟨_, h⟩ | ⟨h, _⟩
  ·rw [h]; decide
  ·exact absurd h2 h
theorem VE.owner {l : List TApiEntry} (V : VE l) {n : TTreeNamed} (hn : n ∈ namesU l) : ∃ e ∈ l, e.Path = n.f_of ∧ e.Kind ≠ 6 ∧ l.find? (fun x => x.Path == n.f_of) = some e := by
 obtain ⟨e, he, _, rfl⟩ := namesU_mem hn
 have key : ∀ x ∈ l, x.Path = (nm e).f_of → l.find? (fun y => y.Path == (nm e).f_of) = some x := fun x hx hp => by
  cases hf : l.find? (fun y => y.Path == (nm e).f_of) with
  | none => have := List.find?_eq_none.1 hf x hx; simp [hp] at this
  | some y =>
   have h1 := List.find?_some hf
   rw [V.inj (List.mem_of_find?_eq_some hf) hx (by rw [hp]; simpa using h1)]
 by_cases h6 : e.Kind = 6
 ·obtain ⟨i, hi⟩ := get_of_mem he
  obtain ⟨x, hx, h1, h2⟩ := (V.ents i e hi).link h6
  have hp : x.Path = (nm e).f_of := by unfold nm; simp only [if_pos h6]; exact h1
  exact ⟨x, hx, hp, by omega, key x hx hp⟩
 ·have hp : e.Path = (nm e).f_of := by unfold nm; simp only [if_neg h6]
  exact ⟨e, he, hp, h6, key e he hp⟩
noncomputable def canonN (l : List TApiEntry) : List TApiNode := ((isort (ltC cmpN) (namesU l)).foldl (cstep (ndOf l)) (mput ([] : Inos) [] 0, [mkN ((nodeE (rootE l)).getD dT0)])).2
theorem tree_Canon_eq {l : List TApiEntry} (V : VE l) : tree_Canon l = some (canonN l, 0) ∧ (canonN l).length ≤ 100 ∧ ∀ x ∈ canonN l, x.Kids.length ≤ 100 ∧ x.Attrs.length ≤ 64 := by
 have hl := V.len
 obtain ⟨f, d, n, e1, H⟩ := tree_index_eq V
 obtain ⟨r3, e3, g1, g2, _⟩ := V.root
 have hmem : ∀ {x}, x ∈ isort (ltC cmpN) (namesU l) → x ∈ namesU l := fun hx => (isort_perm _ _).mem_iff.1 hx
 have hSl : (isort (ltC cmpN) (namesU l)).length ≤ 90 := by
  rw [(isort_perm _ _).length_eq]
  unfold namesU
  rw [List.length_map]
  exact Nat.le_trans (List.length_filter_le _ _) hl
 unfold tree_Canon
 rw [tree_Check_good V, Option.bind_some]
 simp only
 rw [show ((0 : Int) != 0) = false from rfl, cond_false, e1, Option.bind_some, (tree_root_eq hl).1, Option.bind_some]
 unfold nodeE at e3
 simp only [tupE]
 rw [e3, Option.bind_some, (tree_names_eq V).1, Option.bind_some]
 have hcan : canonN l = ((isort (ltC cmpN) (namesU l)).foldl (cstep (ndOf l)) (mput ([] : Inos) [] 0, [mkN r3])).2 := by
  unfold canonN nodeE
  rw [e3]
  rfl
 generalize hS : isort (ltC cmpN) (namesU l) = S at hmem hSl hcan ⊢
 have := loop_inv (body := fun s : Inos × Int × List TApiNode => tree_Canon_l1 l (l, f, d, n) S s.1 s.2.1 s.2.2) S.length (fun t s => s.2.1 = (t : Int) ∧ CInv t s.1 s.2.2 ∧ (s.1, s.2.2) = (S.take t).foldl (cstep (ndOf l)) (mput ([] : Inos) [] 0, [mkN r3])) (fun r => r = .inl (canonN l) ∧ CInv S.length ((S.foldl (cstep (ndOf l)) (mput ([] : Inos) [] 0, [mkN r3])).1) (canonN l)) (by
  rintro t ⟨inos, k, b⟩ ht ⟨hk, hI, hb⟩
  simp only at hk hI hb
  subst hk
  have hx : S[t]? = some S[t] := List.getElem?_eq_getElem ht
  have hxm := hmem (mem_of_get hx)
  obtain ⟨e, he, ho, h6, hfi⟩ := V.owner hxm
  obtain ⟨r5, e5, q1, q2, _⟩ := V.node he h6
  obtain ⟨i, hi⟩ := get_of_mem he
  have hnd : ndOf l S[t].f_of = mkN r5 := by unfold ndOf; rw [hfi, Option.getD_some, e5]; rfl
  obtain ⟨e', he', hne, hnm⟩ := namesU_mem hxm
  obtain ⟨i', hi'⟩ := get_of_mem he'
  have hpl := PathOk.len (V.ents i' e' hi').path
  have hcnt := List.count_le_length (a := (47 : UInt8)) (l := e'.Path)
  have hbody := canon_body (l := l) (r1 := (l, f, d, n)) (r4 := S) hI (by omega) hx (nd := ndOf l) (by rw [hnd]; exact ⟨q1, q2⟩) (i := i) (e := e) (by rw [← ho]; exact H.at_ i e (lt_of_get hi) hi) hi e5 hnd (by rw [hnm]; show 1 ≤ (spl e'.Path).length; rw [spl_len]; omega) (by rw [hnm]; show (spl e'.Path).length ≤ _; rw [spl_len]; omega) (by rw [hnm]; exact hpl)
  refine Or.inl ⟨_, hbody, rfl, cstep_inv hI _ _ (by rw [hnd]; exact ⟨q1, q2⟩), ?_⟩
  rw [List.take_add_one, hx, List.foldl_append, ← hb]
  rfl) (by
  rintro ⟨inos, k, b⟩ ⟨hk, hI, hb⟩
  simp only at hk hI hb
  subst hk
  rw [List.take_length] at hb
  unfold tree_Canon_l1
  simp only
  rw [dF (by omega), cond_false, hcan, ← hb]
  exact ⟨_, rfl, rfl, hI⟩) (s := (mput ([] : Inos) [] 0, 0, [mkN r3])) ⟨rfl, ⟨by simp, by simp, (fun K v hv => by
   rw [mget_put] at hv
   split at hv
   ·cases hv; exact ⟨by omega, by simp⟩
   ·cases hv), fun x hx => by
   simp only [List.mem_cons, List.mem_nil_iff, or_false] at hx
   subst hx
   rw [g2]
   exact ⟨Nat.zero_le _, g1⟩⟩, rfl⟩
 obtain ⟨r, e9, rfl, hI⟩ := this
 have e9' : loopO (fun s : Inos × Int × List TApiNode => tree_Canon_l1 l (l, f, d, n) S s.1 s.2.1 s.2.2) ((mput ([] : List (List UInt8 × Int)) ([] : List UInt8) 0), 0, [{ ({ Kind := r3.1, Mode := r3.2.1, Uid := r3.2.2.1, Gid := r3.2.2.2.1, Time := r3.2.2.2.2.1, Size := r3.2.2.2.2.2.1, Data := r3.2.2.2.2.2.2.1, Target := r3.2.2.2.2.2.2.2.1, Dev := r3.2.2.2.2.2.2.2.2.1, Attrs := r3.2.2.2.2.2.2.2.2.2.1, Kids := [], Parent := r3.2.2.2.2.2.2.2.2.2.2.2.1, Links := r3.2.2.2.2.2.2.2.2.2.2.2.2 } : TApiNode) with Kids := r3.2.2.2.2.2.2.2.2.2.2.1 }]) = some (.inl (canonN l)) := e9
 rw [e9', bI]
 have h1 := hI.len
 have h2 := hI.nod
 exact ⟨rfl, by omega, fun x hx => by have := h2 x hx; omega⟩
end Go.Proofs.YtkleajhiihbefaaGreatDoor.F
namespace Go.Proofs.YtkleajhiihbefaaGreatDoor.F
open Go Go.RowKit Go.Proofs.YtkleajhiihbefaaGreatDoor.K Go.Proofs.YtkleajhiihbefaaGreatDoor.K.E
section
variable (p q : List UInt8)
def swp (x : List UInt8) : List UInt8 := if x = p then q else if x = q then p else x
def sw (e : TApiEntry) : TApiEntry := { e with Path := swp p q e.Path, Target := if e.Kind = 6 ∧ e.Target = p then q else e.Target }
def rn (K : List UInt8) : List UInt8 := if K = p then q else K
def rnN (n : TTreeNamed) : TTreeNamed := { n with f_of := rn p q n.f_of }
end
structure SwapAt (l : List TApiEntry) (p q : List UInt8) : Prop where
 v : VE l
 pe : ∃ e ∈ l, e.Path = p ∧ 1 ≤ e.Kind ∧ e.Kind ≤ 5 ∧ e.Kind ≠ 2
 qe : ∃ e ∈ l, e.Path = q ∧ e.Kind = 6 ∧ e.Target = p
section
variable {l : List TApiEntry} {p q : List UInt8} (W : SwapAt l p q)
include W
theorem SwapAt.ne : p ≠ q := by
 obtain ⟨a, ha, h1, h2⟩ := W.pe
 obtain ⟨b, hb, h3, h4, _⟩ := W.qe
 intro h
 have := W.v.inj ha hb (by rw [h1, h3, h])
 subst this
 omega
theorem SwapAt.atp {e : TApiEntry} (he : e ∈ l) (h : e.Path = p) : 1 ≤ e.Kind ∧ e.Kind ≤ 5 ∧ e.Kind ≠ 2 := by
 obtain ⟨a, ha, h1, h2⟩ := W.pe
 rw [W.v.inj he ha (by rw [h, h1])]
 exact h2
theorem SwapAt.atq {e : TApiEntry} (he : e ∈ l) (h : e.Path = q) : e.Kind = 6 ∧ e.Target = p := by
 obtain ⟨a, ha, h1, h2⟩ := W.qe
 rw [W.v.inj he ha (by rw [h, h1])]
 exact h2
theorem SwapAt.pn : p ≠ [] := by
 obtain ⟨a, ha, h1, h2⟩ := W.pe
 obtain ⟨i, hi⟩ := get_of_mem ha
 rcases (W.v.ents i a hi).path with ⟨_, h⟩ | ⟨h, _⟩
 ·exact absurd h h2.2.2
 ·rwa [h1] at h
theorem SwapAt.qn : q ≠ [] := by
 obtain ⟨a, ha, h1, h2, _⟩ := W.qe
 obtain ⟨i, hi⟩ := get_of_mem ha
 rcases (W.v.ents i a hi).path with ⟨_, h⟩ | ⟨h, _⟩
 ·omega
 ·rwa [h1] at h
theorem SwapAt.swp_swp (x : List UInt8) : swp p q (swp p q x) = x := by
 have := W.ne
 unfold swp
 by_cases h1 : x = p
 ·subst h1; simp [this, Ne.symm this]
 ·by_cases h2 : x = q
  ·subst h2; simp [h1]
  ·simp [h1, h2]
theorem SwapAt.swp_nil (x : List UInt8) : swp p q x = [] ↔ x = [] := by
 have h1 := W.pn
 have h2 := W.qn
 unfold swp
 constructor
 ·intro h
  split at h
  ·exact absurd h h2
  ·split at h
   ·exact absurd h h1
   ·exact h
 ·rintro rfl
  rw [if_neg fun e => h1 e.symm, if_neg fun e => h2 e.symm]
theorem SwapAt.dir {e : TApiEntry} (he : e ∈ l) (h2 : e.Kind = 2) : e.Path ≠ p ∧ e.Path ≠ q := by
 constructor
 ·intro h; exact (W.atp he h).2.2 h2
 ·intro h; have := (W.atq he h).1; omega
theorem SwapAt.up {e : TApiEntry} (he : e ∈ l) : upP e.Path = [] ∨ ∃ x ∈ l, x.Path = upP e.Path ∧ x.Kind = 2 := by
 obtain ⟨i, hi⟩ := get_of_mem he
 exact (W.v.ents i e hi).up
theorem SwapAt.up_ne {e : TApiEntry} (he : e ∈ l) : upP e.Path ≠ p ∧ upP e.Path ≠ q := by
 rcases W.up he with h | ⟨x, hx, h1, h2⟩
 ·rw [h]; exact ⟨fun e => W.pn e.symm, fun e => W.qn e.symm⟩
 ·rw [← h1]; exact W.dir hx h2
theorem SwapAt.path_of {e : TApiEntry} (he : e ∈ l) : ∃ x ∈ l, x.Path = swp p q e.Path := by
 unfold swp
 by_cases h1 : e.Path = p
 ·rw [if_pos h1]; obtain ⟨a, ha, h, _⟩ := W.qe; exact ⟨a, ha, h⟩
 ·rw [if_neg h1]
  by_cases h2 : e.Path = q
  ·rw [if_pos h2]; obtain ⟨a, ha, h, _⟩ := W.pe; exact ⟨a, ha, h⟩
  ·rw [if_neg h2]; exact ⟨e, he, rfl⟩
theorem SwapAt.ve : VE (l.map (sw p q)) := by
 have V := W.v
 refine ⟨by rw [List.length_map]; exact V.len, fun e he => ?_, fun i e' he' => ?_⟩
 ·obtain ⟨x, hx, rfl⟩ := List.mem_map.1 he
  exact V.data x hx
 ·rw [List.getElem?_map] at he'
  cases hi : l[i]? with
  | none => rw [hi] at he'; cases he'
  | some e =>
   rw [hi] at he'
   simp only [Option.map_some, Option.some.injEq] at he'
   subst he'
   have E := V.ents i e hi
   have he := mem_of_get hi
   obtain ⟨x0, hx0, hp0⟩ := W.path_of he
   refine ⟨E.kind, ?_, fun k x hk hx => ?_, ?_, fun h6 => ?_, fun h6 => ?_⟩
   ·show PathOk (swp p q e.Path) e.Kind
    by_cases hn : e.Path = []
    ·rw [(W.swp_nil _).2 hn]
     rcases E.path with h | ⟨h, _⟩
     ·exact Or.inl ⟨rfl, h.2⟩
     ·exact absurd hn h
    ·rw [← hp0]
     obtain ⟨j, hj⟩ := get_of_mem hx0
     rcases (V.ents j x0 hj).path with ⟨h, _⟩ | h
     ·exact absurd ((W.swp_nil _).1 (by rw [← hp0, h])) hn
     ·exact Or.inr h
   ·rw [List.getElem?_map] at hx
    cases hk' : l[k]? with
    | none => rw [hk'] at hx; cases hx
    | some y =>
     rw [hk'] at hx
     simp only [Option.map_some, Option.some.injEq] at hx
     subst hx
     intro heq
     have heq' : swp p q y.Path = swp p q e.Path := heq
     have := congrArg (swp p q) heq'
     rw [W.swp_swp, W.swp_swp] at this
     exact E.dist k y hk hk' this
   ·show upP (swp p q e.Path) = [] ∨ ∃ x ∈ l.map (sw p q), x.Path = upP (swp p q e.Path) ∧ x.Kind = 2
    rw [← hp0]
    rcases W.up hx0 with h | ⟨y, hy, h1, h2⟩
    ·exact Or.inl h
    ·refine Or.inr ⟨sw p q y, List.mem_map_of_mem hy, ?_, h2⟩
     show swp p q y.Path = _
     obtain ⟨g1, g2⟩ := W.dir hy h2
     unfold swp
     rw [if_neg g1, if_neg g2, h1]
   ·have h6' : e.Kind = 6 := h6
    show ∃ x ∈ l.map (sw p q), x.Path = (if e.Kind = 6 ∧ e.Target = p then q else e.Target) ∧ _
    by_cases ht : e.Target = p
    ·rw [if_pos ⟨h6', ht⟩]
     obtain ⟨a, ha, h1, h2⟩ := W.pe
     refine ⟨sw p q a, List.mem_map_of_mem ha, ?_, h2⟩
     show swp p q a.Path = q
     unfold swp
     rw [if_pos h1]
    ·rw [if_neg fun h => ht h.2]
     obtain ⟨a, ha, h1, h2⟩ := E.link h6'
     refine ⟨sw p q a, List.mem_map_of_mem ha, ?_, h2⟩
     show swp p q a.Path = _
     unfold swp
     rw [if_neg (by rw [h1]; exact ht), if_neg fun h => by have := (W.atq ha h).1; omega, h1]
   ·have h6' : e.Kind ≠ 6 := h6
    show FOk e.Kind e.Mode e.Uid e.Gid e.Time e.Size e.Data (if e.Kind = 6 ∧ e.Target = p then q else e.Target) e.Dev e.Attrs
    rw [if_neg fun h => h6' h.1]
    exact E.flds h6'
theorem SwapAt.nm_other {e : TApiEntry} (he : e ∈ l) (h1 : e.Path ≠ p) (h2 : e.Path ≠ q) : nm (sw p q e) = rnN p q (nm e) := by
 have hs : swp p q e.Path = e.Path := by unfold swp; rw [if_neg h1, if_neg h2]
 by_cases h6 : e.Kind = 6
 ·by_cases ht : e.Target = p
  ·simp [nm, sw, rnN, rn, hs, h6, ht]
  ·simp [nm, sw, rnN, rn, hs, h6, ht]
 ·simp [nm, sw, rnN, rn, hs, h6, h1]
theorem SwapAt.nm_swap {a b : TApiEntry} (ha : a ∈ l) (hb : b ∈ l) (hp : a.Path = p) (hq : b.Path = q) : nm (sw p q a) = rnN p q (nm b) ∧ nm (sw p q b) = rnN p q (nm a) := by
 obtain ⟨h6, ht⟩ := W.atq hb hq
 obtain ⟨_, h5, _⟩ := W.atp ha hp
 have hne := W.ne
 have h6a : a.Kind ≠ 6 := by omega
 constructor
 ·simp [nm, sw, rnN, rn, swp, hp, hq, h6a, h6, ht]
 ·simp [nm, sw, rnN, rn, swp, hp, hq, h6a, h6, ht, hne, Ne.symm hne]
theorem SwapAt.names_mem (x : TTreeNamed) : x ∈ namesU (l.map (sw p q)) ↔ x ∈ (namesU l).map (rnN p q) := by
 obtain ⟨a, ha, hap, _⟩ := W.pe
 obtain ⟨b, hb, hbq, _⟩ := W.qe
 obtain ⟨s1, s2⟩ := W.nm_swap ha hb hap hbq
 have inU : ∀ {e : TApiEntry}, e ∈ l → e.Path ≠ [] → rnN p q (nm e) ∈ (namesU l).map (rnN p q) := fun he hn => List.mem_map_of_mem (List.mem_map_of_mem (List.mem_filter.2 ⟨he, by simpa using hn⟩))
 have inM : ∀ {e : TApiEntry}, e ∈ l → e.Path ≠ [] → nm (sw p q e) ∈ namesU (l.map (sw p q)) := fun {e} he hn => List.mem_map_of_mem (List.mem_filter.2 ⟨List.mem_map_of_mem he, by
  have : swp p q e.Path ≠ [] := fun h => hn ((W.swp_nil _).1 h)
  simpa [sw] using this⟩)
 have hpn := W.pn
 have hqn := W.qn
 constructor
 ·intro h
  obtain ⟨e', he', hn, rfl⟩ := namesU_mem h
  obtain ⟨e, he, rfl⟩ := List.mem_map.1 he'
  have hn' : e.Path ≠ [] := fun h => hn ((W.swp_nil _).2 h)
  by_cases h1 : e.Path = p
  ·rw [W.v.inj he ha (by rw [h1, hap]), s1]
   exact inU hb (by rw [hbq]; exact hqn)
  ·by_cases h2 : e.Path = q
   ·rw [W.v.inj he hb (by rw [h2, hbq]), s2]
    exact inU ha (by rw [hap]; exact hpn)
   ·rw [W.nm_other he h1 h2]
    exact inU he hn'
 ·intro h
  obtain ⟨y, hy, rfl⟩ := List.mem_map.1 h
  obtain ⟨e, he, hn, rfl⟩ := namesU_mem hy
  by_cases h1 : e.Path = p
  ·rw [W.v.inj he ha (by rw [h1, hap]), ← s2]
   exact inM hb (by rw [hbq]; exact hqn)
  ·by_cases h2 : e.Path = q
   ·rw [W.v.inj he hb (by rw [h2, hbq]), ← s1]
    exact inM ha (by rw [hap]; exact hpn)
   ·rw [← W.nm_other he h1 h2]
    exact inM he hn
end
theorem perm_of_nodup {α : Type} : ∀ {a b : List α}, a.Nodup → b.Nodup → (∀ x, x ∈ a ↔ x ∈ b) → a.Perm b
 | [], b, _, _, h => by
  cases b with
  | nil => exact List.Perm.refl _
  | cons y b => exact absurd ((h y).2 (List.mem_cons_self ..)) (by simp)
 | x :: a, b, h1, h2, h => by
  obtain ⟨s, t, rfl⟩ := List.append_of_mem ((h x).1 (List.mem_cons_self ..))
  rw [List.nodup_cons] at h1
  have h3 := (List.perm_middle (a := x) (l₁ := s) (l₂ := t)).nodup_iff.1 h2
  rw [List.nodup_cons] at h3
  refine ((perm_of_nodup h1.2 h3.2 fun y => ?_).cons x).trans List.perm_middle.symm
  constructor
  ·intro hy
   have hne : y ≠ x := fun e => h1.1 (e ▸ hy)
   have := (h y).1 (List.mem_cons_of_mem _ hy)
   rcases List.mem_append.1 this with g | g
   ·exact List.mem_append_left _ g
   ·rcases List.mem_cons.1 g with g | g
    ·exact absurd g hne
    ·exact List.mem_append_right _ g
  ·intro hy
   have hne : y ≠ x := fun e => h3.1 (e ▸ hy)
   have : y ∈ s ++ x :: t := by
    rcases List.mem_append.1 hy with g | g
    ·exact List.mem_append_left _ g
    ·exact List.mem_append_right _ (List.mem_cons_of_mem _ g)
   rcases List.mem_cons.1 ((h y).2 this) with g | g
   ·exact absurd g hne
   ·exact g
theorem PE.names_pw {l : List TApiEntry} (V : PE l) : (namesU l).Pairwise (fun a b => a.f_path ≠ b.f_path) := by
 unfold namesU
 rw [List.pairwise_map]
 refine List.Pairwise.filter _ ?_
 rw [List.pairwise_iff_getElem]
 intro i j hi hj hij
 exact V.dist j _ (List.getElem?_eq_getElem hj) i _ hij (List.getElem?_eq_getElem hi)
theorem VE.names_pw {l : List TApiEntry} (V : VE l) : (namesU l).Pairwise (fun a b => a.f_path ≠ b.f_path) := V.pe.names_pw
theorem nodup_of_pw {l : List TTreeNamed} (h : l.Pairwise (fun a b => a.f_path ≠ b.f_path)) : l.Nodup := h.imp fun h e => h (by rw [e])
section
variable {l : List TApiEntry} {p q : List UInt8} (W : SwapAt l p q)
include W
theorem SwapAt.sorted : isort (ltC cmpN) (namesU (l.map (sw p q))) = (isort (ltC cmpN) (namesU l)).map (rnN p q) := by
 have hperm : ((namesU l).map (rnN p q)).Perm (namesU (l.map (sw p q))) := perm_of_nodup (nodup_of_pw (by rw [List.pairwise_map]; exact W.v.names_pw)) (nodup_of_pw W.ve.names_pw) fun x => (W.names_mem x).symm
 have spec := sortBy_spec (tree_names_eq W.v).2
 have spec' := sortBy_spec (tree_names_eq W.ve).2
 refine (spec'.uniq _ (((isort_perm _ _).map _).trans hperm) ?_).symm
 rw [List.pairwise_map]
 exact isort_sorted (p := fun x => x ∈ namesU l) (fun x hx => spec.irr x hx) (fun x y z hx hy hz => spec.tr x hx y hy z hz) (fun x y z hx hy hz => spec.ntr x hx y hy z hz) (fun y hy => hy)
theorem SwapAt.root : rootE (l.map (sw p q)) = rootE l := by
 have hix : ∀ (k : List TApiEntry) (n : Nat), firstQ (fun t (e : TApiEntry) => if (fun e : TApiEntry => e.Path == []) e then some (t : Int) else none) n (k.map (sw p q)) = firstQ (fun t (e : TApiEntry) => if (fun e : TApiEntry => e.Path == []) e then some (t : Int) else none) n k := by
  intro k
  induction k with
  | nil => intro n; rfl
  | cons e k ih =>
   intro n
   rw [List.map_cons]
   unfold firstQ
   have : ((sw p q e).Path == []) = (e.Path == []) := by
    rw [show (sw p q e).Path = swp p q e.Path from rfl]
    by_cases h : e.Path = []
    ·rw [(W.swp_nil _).2 h, h]
    ·have : swp p q e.Path ≠ [] := fun g => h ((W.swp_nil _).1 g)
     rw [beq_false_of_ne this, beq_false_of_ne h]
   simp only [this]
   rw [ih]
 have h1 : ixI (fun e : TApiEntry => e.Path == []) (l.map (sw p q)) = ixI (fun e : TApiEntry => e.Path == []) l := by
  unfold ixI
  rw [hix]
 unfold rootE
 rw [h1]
 by_cases h : ixI (fun e : TApiEntry => e.Path == []) l = -1
 ·rw [h]; rfl
 ·obtain ⟨t, x, e1, e2, e3⟩ := ixI_pos h
  rw [e1, Int.toNat_natCast, List.getElem?_map, e2, if_neg (by omega), if_neg (by omega)]
  simp only [Option.map_some, Option.getD_some]
  have hx : x.Path = [] := by simpa using e3
  have hk : x.Kind ≠ 6 := by
   rcases (W.v.ents t x e2).path with ⟨_, h⟩ | ⟨h, _⟩
   ·omega
   ·exact absurd hx h
  unfold sw
  rw [(W.swp_nil _).2 hx, if_neg fun h => hk h.1, ← hx]
theorem SwapAt.nd {n : TTreeNamed} (hn : n ∈ namesU l) : ndOf (l.map (sw p q)) (rn p q n.f_of) = ndOf l n.f_of ∧ n.f_of ≠ q := by
 obtain ⟨e, he, ho, h6, hf⟩ := W.v.owner hn
 have hq : n.f_of ≠ q := fun h => h6 (W.atq he (by rw [ho, h])).1
 refine ⟨?_, hq⟩
 have hm : (l.map (sw p q)).find? (fun x => x.Path == rn p q n.f_of) = some (sw p q e) := by
  have hp : (sw p q e).Path = rn p q n.f_of := by
   show swp p q e.Path = _
   rw [ho]
   unfold swp rn
   by_cases h1 : n.f_of = p
   ·rw [if_pos h1, if_pos h1]
   ·rw [if_neg h1, if_neg h1, if_neg hq]
  cases hf' : (l.map (sw p q)).find? (fun x => x.Path == rn p q n.f_of) with
  | none => have := List.find?_eq_none.1 hf' _ (List.mem_map_of_mem he); simp [hp] at this
  | some y =>
   have h1 := List.find?_some hf'
   rw [W.ve.inj (List.mem_of_find?_eq_some hf') (List.mem_map_of_mem he) (by rw [hp]; simpa using h1)]
 unfold ndOf
 rw [hm, hf, Option.getD_some, Option.getD_some]
 have : nodeE (sw p q e) = nodeE e := by
  unfold nodeE sw
  simp only
  rw [if_neg fun h => h6 h.1]
  rfl
 rw [this]
theorem SwapAt.step {n : TTreeNamed} (hn : n ∈ namesU l) {inos inos' : Inos} (R : ∀ K, K ≠ q → mget inos' (rn p q K) = mget inos K) (b : List TApiNode) : (cstep (ndOf (l.map (sw p q))) (inos', b) (rnN p q n)).2 = (cstep (ndOf l) (inos, b) n).2 ∧ ∀ K, K ≠ q → mget (cstep (ndOf (l.map (sw p q))) (inos', b) (rnN p q n)).1 (rn p q K) = mget (cstep (ndOf l) (inos, b) n).1 K := by
 obtain ⟨hnd, hq⟩ := W.nd hn
 obtain ⟨e, he, _, hnm⟩ := namesU_mem hn
 have hup := W.up_ne he
 have hupn : upP n.f_path ≠ p ∧ upP n.f_path ≠ q := by rw [hnm]; exact hup
 have hrn : ∀ {K K'}, K ≠ q → K' ≠ q → (rn p q K = rn p q K' ↔ K = K') := fun {K K'} h1 h2 => by
  unfold rn
  by_cases g1 : K = p <;> by_cases g2 : K' = p
  ·simp [g1, g2]
  ·rw [if_pos g1, if_neg g2]
   exact ⟨fun h => absurd h.symm h2, fun h => absurd (h.symm.trans g1) g2⟩
  ·rw [if_neg g1, if_pos g2]
   exact ⟨fun h => absurd h h1, fun h => absurd (h.trans g2) g1⟩
  ·rw [if_neg g1, if_neg g2]
 have hof := R n.f_of hq

 have hc1 : (c1 (ndOf (l.map (sw p q))) inos' b (rnN p q n)).2 = (c1 (ndOf l) inos b n).2 ∧ ∀ K, K ≠ q → mget (c1 (ndOf (l.map (sw p q))) inos' b (rnN p q n)).1 (rn p q K) = mget (c1 (ndOf l) inos b n).1 K := by
  unfold c1
  rw [show (rnN p q n).f_of = rn p q n.f_of from rfl, hof]
  cases hK : mget inos n.f_of with
  | some v => exact ⟨rfl, R⟩
  | none =>
   simp only [Option.isSome_none, Bool.false_eq_true, if_false]
   refine ⟨by rw [hnd], fun K hK' => ?_⟩
   rw [mget_put, mget_put]
   by_cases h : K = n.f_of
   ·rw [if_pos h, if_pos ((hrn hK' hq).2 h)]
   ·rw [if_neg h, if_neg fun g => h ((hrn hK' hq).1 g), R K hK']
 unfold cstep
 simp only
 generalize c1 (ndOf (l.map (sw p q))) inos' b (rnN p q n) = j' at hc1 ⊢
 generalize c1 (ndOf l) inos b n = j at hc1 ⊢
 obtain ⟨i', j2'⟩ := j'
 obtain ⟨i, j2⟩ := j
 obtain ⟨h1, h2⟩ := hc1
 simp only at h1 h2 ⊢
 subst h1
 have hpar : parO i' (rnN p q n) = parO i n := by
  unfold parO
  have := h2 (upP n.f_path) hupn.2
  rw [show rn p q (upP n.f_path) = upP n.f_path by unfold rn; rw [if_neg hupn.1]] at this
  rw [show (rnN p q n).f_path = n.f_path from rfl, this]
 have hc2 : c2 (i', j2') (rnN p q n) = c2 (i, j2') n := by
  unfold c2
  simp only
  rw [hpar]
  rfl
 rw [hc2, hpar]
 exact ⟨rfl, h2⟩
theorem SwapAt.same : canonN (l.map (sw p q)) = canonN l := by
 unfold canonN
 rw [W.sorted, W.root]
 have : ∀ (S : List TTreeNamed), (∀ n ∈ S, n ∈ namesU l) → ∀ (inos inos' : Inos) (b : List TApiNode), (∀ K, K ≠ q → mget inos' (rn p q K) = mget inos K) → ((S.map (rnN p q)).foldl (cstep (ndOf (l.map (sw p q)))) (inos', b)).2 = (S.foldl (cstep (ndOf l)) (inos, b)).2 := by
  intro S
  induction S with
  | nil => intro _ inos inos' b _; rfl
  | cons n S ih =>
   intro hS inos inos' b R
   obtain ⟨h1, h2⟩ := W.step (hS n (List.mem_cons_self ..)) R b
   rw [List.map_cons, List.foldl_cons, List.foldl_cons]
   have e1 : cstep (ndOf (l.map (sw p q))) (inos', b) (rnN p q n) = ((cstep (ndOf (l.map (sw p q))) (inos', b) (rnN p q n)).1, (cstep (ndOf l) (inos, b) n).2) := by rw [← h1]
   rw [e1]
   exact ih (fun m hm => hS m (List.mem_cons_of_mem _ hm)) _ _ _ h2
 refine this _ (fun n hn => (isort_perm _ _).mem_iff.1 hn) _ _ _ fun K hK => ?_
 rw [mget_put, mget_put]
 have hpn := W.pn
 have hqn := W.qn
 unfold rn
 by_cases h : K = p
 ·rw [if_pos h, if_neg hqn, if_neg (by rw [h]; exact hpn)]; rfl
 ·rw [if_neg h]
end
end Go.Proofs.YtkleajhiihbefaaGreatDoor.F
