/- Texts in one: M2 M3 M4 M5 M6 M7 M8 E0 E1. -/
import Derived.Test.YtkleajhiihbefaaGreatDoorBK0
import Derived.ChangeArms
import Derived.Deep.Slices
import Derived.OpenShut
import Derived.ChangeBears2
import Derived.Laws.StructEq
import Derived.ChangeKeysEq
set_option linter.unusedVariables false
set_option linter.unusedSimpArgs false
set_option linter.unusedSectionVars false
namespace Go.Proofs.YtkleajhiihbefaaGreatDoor.K
open Go Go.RowKit Go.Op
def idx {α : Type} (l : List α) (i : Int) : Option α := if 0 ≤ i then l[i.toNat]? else none
def slc {α : Type} (l : List α) (a b : Int) : Option (List α) := if 0 ≤ a ∧ a ≤ b ∧ b ≤ l.length then some ((l.take b.toNat).drop a.toNat) else none
def app {α : Type} (l x : List α) : Option (List α) := if l.length + x.length ≤ 137438953472 then some (l ++ x) else none
def cat (l x : List UInt8) : Option (List UInt8) := if l.length + x.length ≤ 9223372036854775807 then some (l ++ x) else none
def upd {α : Type} (l : List α) (i : Int) (x : α) : Option (List α) := if 0 ≤ i ∧ i < l.length then some (l.set i.toNat x) else none
def mk {α : Type} (z : α) (n : Int) : Option (List α) := if 0 ≤ n ∧ n ≤ 137438953472 then some (List.replicate n.toNat z) else none
def chk (b : Bool) : Option Unit := cond b (some ()) none
def bnd {ρ σ : Type} (x : Option (Sum σ ρ)) (k : σ → Option ρ) : Option ρ := x.bind fun y => match y with
 | .inl s => k s
 | .inr r => some r
def shr8 (x : UInt8) (y : Int) : UInt8 := UInt8.ofNat (x.toNat / 2 ^ min y.toNat 8)
def shl8 (x : UInt8) (y : Int) : UInt8 := UInt8.ofInt ((x.toNat : Int) * 2 ^ min y.toNat 8)
def shr32 (x : UInt32) (y : Int) : UInt32 := UInt32.ofNat (x.toNat / 2 ^ min y.toNat 32)
def shl32 (x : UInt32) (y : Int) : UInt32 := UInt32.ofInt ((x.toNat : Int) * 2 ^ min y.toNat 32)
def shr64 (x : UInt64) (y : Int) : UInt64 := UInt64.ofNat (x.toNat / 2 ^ min y.toNat 64)
def shl64 (x : UInt64) (y : Int) : UInt64 := UInt64.ofInt ((x.toNat : Int) * 2 ^ min y.toNat 64)
def shrI (x y : Int) : Int := x / 2 ^ min y.toNat 64
def shlI (x y : Int) : Int := IntKind.i64.wrap (x * 2 ^ min y.toNat 64)
def iter {σ ρ : Type} (body : σ → Option (Sum σ ρ)) : Nat → σ → Option ρ
 | 0, _ => none
 | n + 1, s => match body s with
  | none => none
  | some (.inl s') => iter body n s'
  | some (.inr r) => some r
theorem iter_mono {σ ρ : Type} {body : σ → Option (Sum σ ρ)} : ∀ {n k : Nat} {s : σ} {r : ρ}, iter body n s = some r → iter body (n + k) s = some r
 | 0, k, s, r, h => by simp [iter] at h
 | n + 1, k, s, r, h => by
  rw [show n + 1 + k = (n + k) + 1 by omega]
  simp only [iter] at h ⊢
  cases hb : body s with
  | none => rw [hb] at h; exact h
  | some x =>
   rw [hb] at h
   cases x with
   | inl s' => exact iter_mono h
   | inr r' => exact h
open Classical in
noncomputable def loopO {σ ρ : Type} (body : σ → Option (Sum σ ρ)) (s : σ) : Option ρ :=
 if h : ∃ n r, iter body n s = some r then some (Classical.choose (Classical.choose_spec h)) else none
theorem loopO_iff {σ ρ : Type} {body : σ → Option (Sum σ ρ)} {s : σ} {r : ρ} : loopO body s = some r ↔ ∃ n, iter body n s = some r := by
 unfold loopO
 constructor
 ·intro h
  split at h
  ·rename_i hx
   have := Classical.choose_spec (Classical.choose_spec hx)
   cases h
   exact ⟨_, this⟩
  ·cases h
 ·rintro ⟨n, h⟩
  have hx : ∃ n r, iter body n s = some r := ⟨n, r, h⟩
  rw [dif_pos hx]
  have h2 := Classical.choose_spec (Classical.choose_spec hx)
  have h3 := iter_mono (k := Classical.choose hx) h
  have h4 := iter_mono (k := n) h2
  rw [Nat.add_comm, h4] at h3
  exact h3
theorem loopO_eq {σ ρ : Type} (body : σ → Option (Sum σ ρ)) (s : σ) : loopO body s = match body s with
  | none => none
  | some (.inl s') => loopO body s'
  | some (.inr r) => some r := by
 apply Option.ext
 intro r
 rw [loopO_iff]
 cases hb : body s with
 | none =>
  simp only [reduceCtorEq, iff_false, not_exists]
  intro n
  cases n <;> simp [iter, hb]
 | some x =>
  cases x with
  | inl s' =>
   simp only [loopO_iff]
   constructor
   ·rintro ⟨n, h⟩
    cases n with
    | zero => simp [iter] at h
    | succ n => simp only [iter, hb] at h; exact ⟨n, h⟩
   ·rintro ⟨n, h⟩
    exact ⟨n + 1, by simp only [iter, hb]; exact h⟩
  | inr r' =>
   constructor
   ·rintro ⟨n, h⟩
    cases n with
    | zero => simp [iter] at h
    | succ n => simp only [iter, hb] at h; exact h
   ·intro h
    exact ⟨1, by simp only [iter, hb]; exact h⟩
theorem bindE {α β : Type} {o : Option α} {f : α → Option β} {r : β} (h : o.bind f = some r) : ∃ x, o = some x ∧ f x = some r := by
 cases o with
 | none => cases h
 | some x => exact ⟨x, rfl, h⟩
theorem condT {β : Type} {b : Bool} {x y r : β} (h : cond b x y = r) : (b = true ∧ x = r) ∨ (b = false ∧ y = r) := by
 cases b
 ·exact .inr ⟨rfl, h⟩
 ·exact .inl ⟨rfl, h⟩
theorem chkE {β : Type} {b : Bool} {f : Unit → Option β} {r : β} (h : (chk b).bind f = some r) : b = true ∧ f () = some r := by
 cases b
 ·cases h
 ·exact ⟨rfl, h⟩
theorem bndE {ρ σ : Type} {x : Option (Sum σ ρ)} {k : σ → Option ρ} {r : ρ} (h : bnd x k = some r) : ∃ y, x = some y ∧ (∀ s, y = .inl s → k s = some r) ∧ ∀ z, y = .inr z → z = r := by
 obtain ⟨y, h1, h2⟩ := bindE h
 refine ⟨y, h1, ?_, ?_⟩
 ·rintro s rfl; exact h2
 ·rintro z rfl; exact Option.some.inj h2
theorem iterE {σ ρ : Type} {body : σ → Option (Sum σ ρ)} {n : Nat} {s : σ} {r : ρ} (h : iter body n s = some r) : ∃ n' q, n = n' + 1 ∧ body s = some q ∧ (∀ s', q = .inl s' → iter body n' s' = some r) ∧ ∀ z, q = .inr z → z = r := by
 cases n with
 | zero => cases h
 | succ n =>
  simp only [iter] at h
  cases hb : body s with
  | none => rw [hb] at h; cases h
  | some q =>
   rw [hb] at h
   refine ⟨n, q, rfl, rfl, ?_, ?_⟩
   ·rintro s' rfl; exact h
   ·rintro z rfl; exact Option.some.inj h
theorem idx_some {α : Type} {l : List α} {i : Int} {x : α} (h : idx l i = some x) : 0 ≤ i ∧ i < l.length ∧ l[i.toNat]? = some x := by
 unfold idx at h
 split at h
 ·have := (List.getElem?_eq_some_iff.1 h).1
  exact ⟨by assumption, by omega, h⟩
 ·cases h
theorem slc_some {α : Type} {l y : List α} {a b : Int} (h : slc l a b = some y) : (0 ≤ a ∧ a ≤ b ∧ b ≤ l.length) ∧ y = (l.take b.toNat).drop a.toNat ∧ (y.length : Int) = b - a := by
 unfold slc at h
 split at h
 ·rename_i hc
  cases h
  refine ⟨hc, rfl, ?_⟩
  rw [List.length_drop, List.length_take]
  omega
 ·cases h
theorem app_some {α : Type} {l x y : List α} (h : app l x = some y) : l.length + x.length ≤ 137438953472 ∧ y = l ++ x := by
 unfold app at h
 split at h
 ·cases h; exact ⟨by assumption, rfl⟩
 ·cases h
theorem cat_some {l x y : List UInt8} (h : cat l x = some y) : l.length + x.length ≤ 9223372036854775807 ∧ y = l ++ x := by
 unfold cat at h
 split at h
 ·cases h; exact ⟨by assumption, rfl⟩
 ·cases h
theorem seq_raw (l m : List UInt8) : (ByteArray.toList ⟨l.toArray⟩ == ByteArray.toList ⟨m.toArray⟩) = (l == m) := by rw [toList_data, toList_data]
theorem sne_raw (l m : List UInt8) : (!(ByteArray.toList ⟨l.toArray⟩ == ByteArray.toList ⟨m.toArray⟩)) = (l != m) := by rw [seq_raw]; rfl
theorem q8_wrap (e : Int) : IntKind.u8.wrap e = ((UInt8.ofInt e).toNat : Int) := by
 rw [wu8m]
 simp [UInt8.ofInt]
 omega
theorem q64_wrap (e : Int) : IntKind.u64.wrap e = ((UInt64.ofInt e).toNat : Int) := by
 rw [wu64m]
 simp [UInt64.ofInt]
 omega
theorem q32_wrap (e : Int) : IntKind.u32.wrap e = ((UInt32.ofInt e).toNat : Int) := by
 have : IntKind.u32.wrap e = e % 4294967296 := by simp [IntKind.wrap, IntKind.bits, IntKind.signed]
 rw [this]
 simp [UInt32.ofInt]
 omega
theorem q32_self (x : UInt32) : IntKind.u32.wrap (x.toNat : Int) = (x.toNat : Int) := by
 have : IntKind.u32.wrap (x.toNat : Int) = (x.toNat : Int) % 4294967296 := by simp [IntKind.wrap, IntKind.bits, IntKind.signed]
 rw [this]; have := x.toNat_lt; omega
theorem q8_self (x : UInt8) : IntKind.u8.wrap (x.toNat : Int) = (x.toNat : Int) := by rw [wu8m]; have := x.toNat_lt; omega
theorem q64_self (x : UInt64) : IntKind.u64.wrap (x.toNat : Int) = (x.toNat : Int) := by rw [wu64m]; have := x.toNat_lt; omega
theorem q64_u8 (x : UInt8) : IntKind.u64.wrap (x.toNat : Int) = (x.toUInt64.toNat : Int) := by rw [wu64m]; have := x.toNat_lt; simp; omega
theorem q32_u8 (x : UInt8) : IntKind.u32.wrap (x.toNat : Int) = (x.toUInt32.toNat : Int) := by
 have : IntKind.u32.wrap (x.toNat : Int) = (x.toNat : Int) % 4294967296 := by simp [IntKind.wrap, IntKind.bits, IntKind.signed]
 rw [this]; have := x.toNat_lt; simp; omega
theorem q8_u64 (x : UInt64) : IntKind.u8.wrap (x.toNat : Int) = (x.toUInt8.toNat : Int) := by rw [wu8m]; simp
theorem q64_add (x y : UInt64) (a b : Int) (ha : a = (x.toNat : Int)) (hb : b = (y.toNat : Int)) : IntKind.u64.wrap (a + b) = ((x + y).toNat : Int) := by subst ha hb; rw [wu64m]; simp
theorem q64_mul (x y : UInt64) (a b : Int) (ha : a = (x.toNat : Int)) (hb : b = (y.toNat : Int)) : IntKind.u64.wrap (a * b) = ((x * y).toNat : Int) := by subst ha hb; rw [wu64m]; simp
theorem q64_sub (x y : UInt64) (a b : Int) (ha : a = (x.toNat : Int)) (hb : b = (y.toNat : Int)) : IntKind.u64.wrap (a - b) = ((x - y).toNat : Int) := by
 subst ha hb; rw [wu64m, UInt64.toNat_sub]; have := x.toNat_lt; have := y.toNat_lt; omega
theorem q8_sub (x y : UInt8) (a b : Int) (ha : a = (x.toNat : Int)) (hb : b = (y.toNat : Int)) : IntKind.u8.wrap (a - b) = ((x - y).toNat : Int) := by
 subst ha hb; rw [wu8m, UInt8.toNat_sub]; have := x.toNat_lt; have := y.toNat_lt; omega
theorem q8_add (x y : UInt8) (a b : Int) (ha : a = (x.toNat : Int)) (hb : b = (y.toNat : Int)) : IntKind.u8.wrap (a + b) = ((x + y).toNat : Int) := by subst ha hb; rw [wu8m]; simp
theorem q64_quo (x y : UInt64) (a b : Int) (ha : a = (x.toNat : Int)) (hb : b = (y.toNat : Int)) : IntKind.u64.wrap (Int.tdiv a b) = ((x / y).toNat : Int) := by
 subst ha hb
 rw [wu64m, show Int.tdiv (x.toNat : Int) (y.toNat : Int) = ((x.toNat / y.toNat : Nat) : Int) from rfl, UInt64.toNat_div]
 have := x.toNat_lt
 have hd := Nat.div_le_self x.toNat y.toNat
 generalize x.toNat / y.toNat = q at hd ⊢
 omega
theorem q64_rem (x y : UInt64) (a b : Int) (ha : a = (x.toNat : Int)) (hb : b = (y.toNat : Int)) : Int.tmod a b = ((x % y).toNat : Int) := by
 subst ha hb
 rw [UInt64.toNat_mod]; rfl
theorem q8_quo (x y : UInt8) (a b : Int) (ha : a = (x.toNat : Int)) (hb : b = (y.toNat : Int)) : IntKind.u8.wrap (Int.tdiv a b) = ((x / y).toNat : Int) := by
 subst ha hb
 rw [wu8m, show Int.tdiv (x.toNat : Int) (y.toNat : Int) = ((x.toNat / y.toNat : Nat) : Int) from rfl, UInt8.toNat_div]
 have := x.toNat_lt
 have hd := Nat.div_le_self x.toNat y.toNat
 generalize x.toNat / y.toNat = q at hd ⊢
 omega
theorem q8_rem (x y : UInt8) (a b : Int) (ha : a = (x.toNat : Int)) (hb : b = (y.toNat : Int)) : Int.tmod a b = ((x % y).toNat : Int) := by
 subst ha hb
 rw [UInt8.toNat_mod]; rfl
theorem shr8_run {P : Program} {w : World} (x : UInt8) {yk : IntKind} (y : Int) (h : 0 ≤ y) : (vS (Op.shift .shr .u8 (x.toNat : Int) yk y)).run P w = .ok (.value (.int .u8 ((shr8 x y).toNat : Int))) w := by
 refine vS_run ?_
 have h1 : ¬ (y < 0) := by omega
 have h2 : (x.toNat : Int).fdiv (2 ^ min y.toNat (IntKind.bits .u8)) = (x.toNat : Int) / 2 ^ min y.toNat 8 := Int.fdiv_eq_ediv_of_nonneg _ (by have : (0 : Int) < 2 ^ min y.toNat 8 := Int.pow_pos (by decide); exact Int.le_of_lt this)
 have h3 : ((x.toNat / 2 ^ min y.toNat 8 : Nat) : Int) = ((shr8 x y).toNat : Int) := by
  unfold shr8
  have := x.toNat_lt
  have hd := Nat.div_le_self x.toNat (2 ^ min y.toNat 8)
  generalize x.toNat / 2 ^ min y.toNat 8 = q at hd ⊢
  simp only [UInt8.toNat_ofNat']
  omega
 simp only [Op.shift, h1, if_false, Sem.run_pure, h2]
 rw [← h3]
 simp
theorem shl8_run {P : Program} {w : World} (x : UInt8) {yk : IntKind} (y : Int) (h : 0 ≤ y) : (vS (Op.shift .shl .u8 (x.toNat : Int) yk y)).run P w = .ok (.value (.int .u8 ((shl8 x y).toNat : Int))) w := by
 refine vS_run ?_
 have h1 : ¬ (y < 0) := by omega
 simp only [Op.shift, h1, if_false, Sem.run_pure]
 rw [q8_wrap]
 rfl
theorem q8_and (x y : UInt8) (a b : Int) (ha : a = (x.toNat : Int)) (hb : b = (y.toNat : Int)) : Go.bits .and .u8 a b = ((x &&& y).toNat : Int) := by
 subst ha hb
 have hx : BitVec.ofInt (IntKind.bits .u8) (x.toNat : Int) = x.toBitVec := by apply BitVec.eq_of_toNat_eq; show (BitVec.ofInt 8 (x.toNat : Int)).toNat = _; rw [BitVec.ofInt_natCast]; simp; rfl
 have hy : BitVec.ofInt (IntKind.bits .u8) (y.toNat : Int) = y.toBitVec := by apply BitVec.eq_of_toNat_eq; show (BitVec.ofInt 8 (y.toNat : Int)).toNat = _; rw [BitVec.ofInt_natCast]; simp; rfl
 unfold Go.bits
 simp only [hx, hy]
 exact q8_self (x &&& y)
theorem q8_or (x y : UInt8) (a b : Int) (ha : a = (x.toNat : Int)) (hb : b = (y.toNat : Int)) : Go.bits .or .u8 a b = ((x ||| y).toNat : Int) := by
 subst ha hb
 have hx : BitVec.ofInt (IntKind.bits .u8) (x.toNat : Int) = x.toBitVec := by apply BitVec.eq_of_toNat_eq; show (BitVec.ofInt 8 (x.toNat : Int)).toNat = _; rw [BitVec.ofInt_natCast]; simp; rfl
 have hy : BitVec.ofInt (IntKind.bits .u8) (y.toNat : Int) = y.toBitVec := by apply BitVec.eq_of_toNat_eq; show (BitVec.ofInt 8 (y.toNat : Int)).toNat = _; rw [BitVec.ofInt_natCast]; simp; rfl
 unfold Go.bits
 simp only [hx, hy]
 exact q8_self (x ||| y)
theorem q8_xor (x y : UInt8) (a b : Int) (ha : a = (x.toNat : Int)) (hb : b = (y.toNat : Int)) : Go.bits .xor .u8 a b = ((x ^^^ y).toNat : Int) := by
 subst ha hb
 have hx : BitVec.ofInt (IntKind.bits .u8) (x.toNat : Int) = x.toBitVec := by apply BitVec.eq_of_toNat_eq; show (BitVec.ofInt 8 (x.toNat : Int)).toNat = _; rw [BitVec.ofInt_natCast]; simp; rfl
 have hy : BitVec.ofInt (IntKind.bits .u8) (y.toNat : Int) = y.toBitVec := by apply BitVec.eq_of_toNat_eq; show (BitVec.ofInt 8 (y.toNat : Int)).toNat = _; rw [BitVec.ofInt_natCast]; simp; rfl
 unfold Go.bits
 simp only [hx, hy]
 exact q8_self (x ^^^ y)
theorem shr32_run {P : Program} {w : World} (x : UInt32) {yk : IntKind} (y : Int) (h : 0 ≤ y) : (vS (Op.shift .shr .u32 (x.toNat : Int) yk y)).run P w = .ok (.value (.int .u32 ((shr32 x y).toNat : Int))) w := by
 refine vS_run ?_
 have h1 : ¬ (y < 0) := by omega
 have h2 : (x.toNat : Int).fdiv (2 ^ min y.toNat (IntKind.bits .u32)) = (x.toNat : Int) / 2 ^ min y.toNat 32 := Int.fdiv_eq_ediv_of_nonneg _ (by have : (0 : Int) < 2 ^ min y.toNat 32 := Int.pow_pos (by decide); exact Int.le_of_lt this)
 have h3 : ((x.toNat / 2 ^ min y.toNat 32 : Nat) : Int) = ((shr32 x y).toNat : Int) := by
  unfold shr32
  have := x.toNat_lt
  have hd := Nat.div_le_self x.toNat (2 ^ min y.toNat 32)
  generalize x.toNat / 2 ^ min y.toNat 32 = q at hd ⊢
  simp only [UInt32.toNat_ofNat']
  omega
 simp only [Op.shift, h1, if_false, Sem.run_pure, h2]
 rw [← h3]
 simp
theorem shl32_run {P : Program} {w : World} (x : UInt32) {yk : IntKind} (y : Int) (h : 0 ≤ y) : (vS (Op.shift .shl .u32 (x.toNat : Int) yk y)).run P w = .ok (.value (.int .u32 ((shl32 x y).toNat : Int))) w := by
 refine vS_run ?_
 have h1 : ¬ (y < 0) := by omega
 simp only [Op.shift, h1, if_false, Sem.run_pure]
 rw [q32_wrap]
 rfl
theorem q32_and (x y : UInt32) (a b : Int) (ha : a = (x.toNat : Int)) (hb : b = (y.toNat : Int)) : Go.bits .and .u32 a b = ((x &&& y).toNat : Int) := by
 subst ha hb
 have hx : BitVec.ofInt (IntKind.bits .u32) (x.toNat : Int) = x.toBitVec := by apply BitVec.eq_of_toNat_eq; show (BitVec.ofInt 32 (x.toNat : Int)).toNat = _; rw [BitVec.ofInt_natCast]; simp; rfl
 have hy : BitVec.ofInt (IntKind.bits .u32) (y.toNat : Int) = y.toBitVec := by apply BitVec.eq_of_toNat_eq; show (BitVec.ofInt 32 (y.toNat : Int)).toNat = _; rw [BitVec.ofInt_natCast]; simp; rfl
 unfold Go.bits
 simp only [hx, hy]
 exact q32_self (x &&& y)
theorem q32_or (x y : UInt32) (a b : Int) (ha : a = (x.toNat : Int)) (hb : b = (y.toNat : Int)) : Go.bits .or .u32 a b = ((x ||| y).toNat : Int) := by
 subst ha hb
 have hx : BitVec.ofInt (IntKind.bits .u32) (x.toNat : Int) = x.toBitVec := by apply BitVec.eq_of_toNat_eq; show (BitVec.ofInt 32 (x.toNat : Int)).toNat = _; rw [BitVec.ofInt_natCast]; simp; rfl
 have hy : BitVec.ofInt (IntKind.bits .u32) (y.toNat : Int) = y.toBitVec := by apply BitVec.eq_of_toNat_eq; show (BitVec.ofInt 32 (y.toNat : Int)).toNat = _; rw [BitVec.ofInt_natCast]; simp; rfl
 unfold Go.bits
 simp only [hx, hy]
 exact q32_self (x ||| y)
theorem q32_xor (x y : UInt32) (a b : Int) (ha : a = (x.toNat : Int)) (hb : b = (y.toNat : Int)) : Go.bits .xor .u32 a b = ((x ^^^ y).toNat : Int) := by
 subst ha hb
 have hx : BitVec.ofInt (IntKind.bits .u32) (x.toNat : Int) = x.toBitVec := by apply BitVec.eq_of_toNat_eq; show (BitVec.ofInt 32 (x.toNat : Int)).toNat = _; rw [BitVec.ofInt_natCast]; simp; rfl
 have hy : BitVec.ofInt (IntKind.bits .u32) (y.toNat : Int) = y.toBitVec := by apply BitVec.eq_of_toNat_eq; show (BitVec.ofInt 32 (y.toNat : Int)).toNat = _; rw [BitVec.ofInt_natCast]; simp; rfl
 unfold Go.bits
 simp only [hx, hy]
 exact q32_self (x ^^^ y)
theorem shr64_run {P : Program} {w : World} (x : UInt64) {yk : IntKind} (y : Int) (h : 0 ≤ y) : (vS (Op.shift .shr .u64 (x.toNat : Int) yk y)).run P w = .ok (.value (.int .u64 ((shr64 x y).toNat : Int))) w := by
 refine vS_run ?_
 have h1 : ¬ (y < 0) := by omega
 have h2 : (x.toNat : Int).fdiv (2 ^ min y.toNat (IntKind.bits .u64)) = (x.toNat : Int) / 2 ^ min y.toNat 64 := Int.fdiv_eq_ediv_of_nonneg _ (by have : (0 : Int) < 2 ^ min y.toNat 64 := Int.pow_pos (by decide); exact Int.le_of_lt this)
 have h3 : ((x.toNat / 2 ^ min y.toNat 64 : Nat) : Int) = ((shr64 x y).toNat : Int) := by
  unfold shr64
  have := x.toNat_lt
  have hd := Nat.div_le_self x.toNat (2 ^ min y.toNat 64)
  generalize x.toNat / 2 ^ min y.toNat 64 = q at hd ⊢
  simp only [UInt64.toNat_ofNat']
  omega
 simp only [Op.shift, h1, if_false, Sem.run_pure, h2]
 rw [← h3]
 simp
theorem shl64_run {P : Program} {w : World} (x : UInt64) {yk : IntKind} (y : Int) (h : 0 ≤ y) : (vS (Op.shift .shl .u64 (x.toNat : Int) yk y)).run P w = .ok (.value (.int .u64 ((shl64 x y).toNat : Int))) w := by
 refine vS_run ?_
 have h1 : ¬ (y < 0) := by omega
 simp only [Op.shift, h1, if_false, Sem.run_pure]
 rw [q64_wrap]
 rfl
theorem q64_and (x y : UInt64) (a b : Int) (ha : a = (x.toNat : Int)) (hb : b = (y.toNat : Int)) : Go.bits .and .u64 a b = ((x &&& y).toNat : Int) := by
 subst ha hb
 have hx : BitVec.ofInt (IntKind.bits .u64) (x.toNat : Int) = x.toBitVec := by apply BitVec.eq_of_toNat_eq; show (BitVec.ofInt 64 (x.toNat : Int)).toNat = _; rw [BitVec.ofInt_natCast]; simp; rfl
 have hy : BitVec.ofInt (IntKind.bits .u64) (y.toNat : Int) = y.toBitVec := by apply BitVec.eq_of_toNat_eq; show (BitVec.ofInt 64 (y.toNat : Int)).toNat = _; rw [BitVec.ofInt_natCast]; simp; rfl
 unfold Go.bits
 simp only [hx, hy]
 exact q64_self (x &&& y)
theorem q64_or (x y : UInt64) (a b : Int) (ha : a = (x.toNat : Int)) (hb : b = (y.toNat : Int)) : Go.bits .or .u64 a b = ((x ||| y).toNat : Int) := by
 subst ha hb
 have hx : BitVec.ofInt (IntKind.bits .u64) (x.toNat : Int) = x.toBitVec := by apply BitVec.eq_of_toNat_eq; show (BitVec.ofInt 64 (x.toNat : Int)).toNat = _; rw [BitVec.ofInt_natCast]; simp; rfl
 have hy : BitVec.ofInt (IntKind.bits .u64) (y.toNat : Int) = y.toBitVec := by apply BitVec.eq_of_toNat_eq; show (BitVec.ofInt 64 (y.toNat : Int)).toNat = _; rw [BitVec.ofInt_natCast]; simp; rfl
 unfold Go.bits
 simp only [hx, hy]
 exact q64_self (x ||| y)
theorem q64_xor (x y : UInt64) (a b : Int) (ha : a = (x.toNat : Int)) (hb : b = (y.toNat : Int)) : Go.bits .xor .u64 a b = ((x ^^^ y).toNat : Int) := by
 subst ha hb
 have hx : BitVec.ofInt (IntKind.bits .u64) (x.toNat : Int) = x.toBitVec := by apply BitVec.eq_of_toNat_eq; show (BitVec.ofInt 64 (x.toNat : Int)).toNat = _; rw [BitVec.ofInt_natCast]; simp; rfl
 have hy : BitVec.ofInt (IntKind.bits .u64) (y.toNat : Int) = y.toBitVec := by apply BitVec.eq_of_toNat_eq; show (BitVec.ofInt 64 (y.toNat : Int)).toNat = _; rw [BitVec.ofInt_natCast]; simp; rfl
 unfold Go.bits
 simp only [hx, hy]
 exact q64_self (x ^^^ y)
theorem shrI_run {P : Program} {w : World} (x : Int) {yk : IntKind} (y : Int) (h : 0 ≤ y) : (vS (Op.shift .shr .i64 x yk y)).run P w = .ok (.value (.int .i64 (shrI x y))) w := by
 refine vS_run ?_
 have h1 : ¬ (y < 0) := by omega
 have h2 : x.fdiv (2 ^ min y.toNat (IntKind.bits .i64)) = x / 2 ^ min y.toNat 64 := Int.fdiv_eq_ediv_of_nonneg _ (by have : (0 : Int) < 2 ^ min y.toNat 64 := Int.pow_pos (by decide); exact Int.le_of_lt this)
 simp only [Op.shift, h1, if_false, Sem.run_pure, h2]
 rfl
theorem shlI_run {P : Program} {w : World} (x : Int) {yk : IntKind} (y : Int) (h : 0 ≤ y) : (vS (Op.shift .shl .i64 x yk y)).run P w = .ok (.value (.int .i64 (shlI x y))) w := by
 refine vS_run ?_
 have h1 : ¬ (y < 0) := by omega
 simp only [Op.shift, h1, if_false, Sem.run_pure]
 rfl
section
variable {P : Program} {B : Code} {n : Cx} {p : List Nat} {i : Nat} {κ : Kn} {w : World} {Z : Kn → World → Prop} {w0 : World} {F0 : Nat → Prop} {m0 m : Mem} {σ : List Item}
theorem newS (d : Option Nat) (v : Nat → Value) (cs : List Value) (t : TypeId) (H : St w0 F0 m0 m σ w) (h : fetchRun P B n p i κ w = some (d, .ok (.value (v w.heap.size)) (w.alloc (.cells cs.toArray t (0, 0)))))
  (hk : ∀ g w1, St w0 F0 m0 m (blkI g cs t :: σ) w1 → Z (putk d (v g) κ) w1) : Step P B n p i κ w Z :=
 newR d v _ h fun g w1 hg hx hb hz => hk g w1 (H.add (j := blkI g cs t) (G := fun k => k = g) hx ⟨hb, fun _ => Iff.rfl⟩ (fun k e => by subst e; omega))
theorem stS (d : Option Nat) (t : TypeId) (n' g off : Nat) (v : Value) (cs : List Value) (e : TypeId) (H : St w0 F0 m0 m σ w) (hn : σ[n']? = some (blkI g cs e)) (ho : fetch B n p i κ = some (d, uS (Instr.storeAt t (.pointer (some ⟨g, off, none⟩)) v))) (ht : oneB P t = true) (hv : v.oneCell' = true) (hoff : off < cs.length)
  (hk : ∀ w1, St w0 F0 m0 m (σ.set n' (blkI g (cs.set off v) e)) w1 → Z (putk d undef κ) w1) : Step P B n p i κ w Z := by
 obtain ⟨F, h1, h2, h3⟩ := H.upd n' hn
 refine stR d t g off v cs.toArray e ho ht hv h1.1 (by simpa using hoff) ?_
 intro w1 hx hg hz
 refine hk w1 (h3 w1 (blkI g (cs.set off v) e) (fun k => k = g) (hx.mono (fun k _ e => (h1.2 k).2 e)) ⟨?_, fun _ => Iff.rfl⟩ (fun k e => .inl ((h1.2 k).2 e)))
 rw [hg]
 congr 2
 simp [Array.set!_eq_setIfInBounds]
theorem stAggS (d : Option Nat) (t : TypeId) (n' g off : Nat) (vs cs cs' : List Value) (e : TypeId) (H : St w0 F0 m0 m σ w) (hn : σ[n']? = some (blkI g cs e)) (ho : fetch B n p i κ = some (d, uS (Instr.storeAt t (.pointer (some ⟨g, off, none⟩)) (.agg vs.toArray)))) (ht : aggB P t vs.length = true) (hv : vs.all (·.oneCell') = true) (hoff : off + vs.length ≤ cs.length)
  (hc : cs.take off ++ vs ++ cs.drop (off + vs.length) = cs') (hk : ∀ w1, St w0 F0 m0 m (σ.set n' (blkI g cs' e)) w1 → Z (putk d undef κ) w1) : Step P B n p i κ w Z := by
 obtain ⟨F, h1, h2, h3⟩ := H.upd n' hn
 refine stAggR d t g off vs cs.toArray cs'.toArray e ho ht hv h1.1 (by simpa using hoff) (by simpa using congrArg List.toArray hc) ?_
 intro w1 hx hg hz
 exact hk w1 (h3 w1 (blkI g cs' e) (fun k => k = g) (hx.mono (fun k _ e => (h1.2 k).2 e)) ⟨hg, fun _ => Iff.rfl⟩ (fun k e => .inl ((h1.2 k).2 e)))
theorem St.nilR (H : St w0 F0 m0 m σ w) {α : Type} (r : Rep α) (t : TypeId) : St w0 F0 m0 m (rowI r t none 0 [] :: σ) w :=
 H.add (Kp.refl _ _) (G := fun _ => False) ⟨⟨[], rfl, World.ownsRow_nil _ _ _ _⟩, fun k => ⟨False.elim, fun e => by cases e⟩⟩ (fun _ e => e.elim)
theorem St.toRow (H : St w0 F0 m0 m σ w) {α : Type} {r : Rep α} {l : List α} (n' : Nat) {g : Nat} {cs : List Value} {t : TypeId} (hn : σ[n']? = some (blkI g cs t)) (hr : Rows r m cs l) (hl : l.length ≤ maxLen) : St w0 F0 m0 m (σ.set n' (rowI r t (some ⟨g, 0, none⟩) l.length l)) w := by
 obtain ⟨F, h1, h2, h3⟩ := H.upd n' hn
 refine h3 w _ (fun k => k = g) (Kp.refl _ _) ⟨⟨cs, hr, ?_⟩, fun k => ⟨fun e => by subst e; rfl, fun e => by cases e; rfl⟩⟩ (fun k e => .inl ((h1.2 k).2 e))
 have := own_of_blk (base := 0) (n := l.length) (sz := r.sz) h1.1 (Nat.zero_le _) hl (by simpa using hr.len)
 simpa using this
theorem appS (d : Option Nat) {α : Type} {r : Rep α} (t e by_ : Nat) (z : Value) (ty : TypeId) (n' : Nat) (A X : Option Addr) (c m' c' : Nat) (l x y : List α) (news : List Value) {lo hi : Nat} (H : St w0 F0 m0 m σ w) (hn : σ[n']? = some (rowI r e A c l)) (he : elB P t e r.sz by_ z) (hz : z.cells.size = r.sz) (hsz : 0 < r.sz)
  (ho : fetch B n p i κ = some (d, vS (Builtin.append_ #[t, t] ty #[.slice A l.length c, .slice X m' c']))) (hX : Cs lo hi w X news) (hr : Rows r m news x) (hm : x.length = m') (hy : app l x = some y) (hby : 0 < by_) (hby2 : by_ ≤ 1024)
  (hk : ∀ A' c1 w1, St w0 F0 m0 m (σ.set n' (rowI r e A' c1 y)) w1 → Z (putk d (.slice A' y.length c1) κ) w1) : Step P B n p i κ w Z := by
 obtain ⟨F, ⟨⟨xs, h1, ho1⟩, hF⟩, h2, h3⟩ := H.upd n' hn
 obtain ⟨hb, rfl⟩ := app_some hy
 subst hm
 refine appR d t e r.sz by_ z ty 0 A X l.length c x.length c' xs news he hz hsz ho ho1 hX hr.len hr.one ?_ hby (Nat.zero_le _) ?_
 ·exact Nat.le_trans (Nat.mul_le_mul hb hby2) (by decide)
 ·intro A' c1 w1 hown hkp hblk hc1 hz1
  rw [← List.length_append] at hown hblk ⊢
  refine hk A' c1 w1 (h3 w1 (rowI r e A' c1 (l ++ x)) (fun k => (Value.slice A' (l ++ x).length c1).ownBlock = some k) (hkp.mono (fun k _ e => (hF k).2 e.symm)) ⟨⟨xs ++ news, h1.app hr, hown⟩, fun _ => Iff.rfl⟩ ?_)
  intro k hk
  rcases hblk with e | e
  ·exact .inl ((hF k).2 (e ▸ hk))
  ·rw [e] at hk
   cases hk
   exact .inr (Nat.le_refl _)
theorem run_appstr (w : World) (base : Nat) (t u ty e : TypeId) (i : TypeInfo) (ht : P.underlying t = some (.slice e)) (hu : P.underlying u = some .string) (hi : P.info? e = some i) (hz : i.zero = some (.int .u8 0))
  (hsize : i.size = 1) (hby : i.bytes = 1) (v : Value) (n : Nat) (xs : List Value) (hown : w.ownsRow base e 1 v n xs) (s : ByteArray) (h63 : n + s.size ≤ maxLen) (hbytes : n + s.size ≤ 140737488355328) (hbase : base ≤ w.heap.size) :
  ∃ v' w', (Builtin.append_ #[t, u] ty #[v, .string s]).run P w = .ok v' w' ∧ w'.ownsRow base e 1 v' (n + s.size) (xs ++ Lib.strCells s) ∧ w.grownBy w' v.ownBlock ∧ (v'.ownBlock = v.ownBlock ∨ v'.ownBlock = some w.heap.size) := by
 obtain ⟨v', w', hr, h1, h2, h3⟩ := Lib.run_append_own_string (P := P) w base t u ty e i ht hu hi hz hsize hby v n xs hown s h63 hbytes hbase
 refine ⟨v', w', hr, h1, h2, ?_⟩
 have hsmall : n + s.size ≤ 9223372036854775807 := by simp only [maxLen] at h63; omega
 have hxl : xs.length = n := by simpa using hown.1
 rcases hown.2 with ⟨rfl, rfl⟩ | ⟨g, cap, cur, rfl, hbg, hg, hnc, hcm, hcs, htake⟩
 ·by_cases hm : s.size = 0
  ·rw [h3.2 ⟨rfl, hm⟩]; exact .inl rfl
  ·have hr2 := run_append_nil_string (P := P) w t u ty e i (.int .u8 0) ht hu hi hz s (by omega) (by omega) (by rw [hby]; omega)
   rw [hr2] at hr
   cases hr
   exact .inr rfl
 ·by_cases hroom : n + s.size ≤ cap
  ·have hr2 := Lib.run_append_room_string (P := P) w t u ty e i ht hu hi hsize g n cap cur hg s hroom (by simp at hcs; omega)
   rw [hr2] at hr
   cases hr
   exact .inl rfl
  ·have hfit : Builtin.nextslicecap (n + s.size) cap * i.bytes ≤ 281474976710656 := by
    rw [hby, Nat.mul_one]
    exact Nat.le_trans (nextslicecap_le (by omega)) (by omega)
   have hr2 := Lib.run_append_grow_string (P := P) w t u ty e i (.int .u8 0) ht hu hi hz ⟨g, 0, none⟩ n cap xs (by rw [hxl, hsize, Nat.mul_one]) (by
    intro j x hj
    rw [Addr.add_lit, Nat.zero_add]
    refine blk_cell hg ?_
    rw [← htake, List.getElem?_take] at hj
    split at hj
    ·simpa using hj
    ·cases hj) s (by omega) (by omega) hfit
   rw [hr2] at hr
   cases hr
   exact .inr rfl
theorem appstrS (d : Option Nat) (t u e : TypeId) (ty : TypeId) (n' : Nat) (A : Option Addr) (c : Nat) (l x y : List UInt8) (H : St w0 F0 m0 m σ w) (hn : σ[n']? = some (rowI rU8 e A c l)) (he : elB P t e 1 1 (.int .u8 0)) (hu : P.underlying u = some .string)
  (ho : fetch B n p i κ = some (d, vS (Builtin.append_ #[t, u] ty #[.slice A l.length c, .string ⟨x.toArray⟩]))) (hy : app l x = some y)
  (hk : ∀ A' c1 w1, St w0 F0 m0 m (σ.set n' (rowI rU8 e A' c1 y)) w1 → Z (putk d (.slice A' y.length c1) κ) w1) : Step P B n p i κ w Z := by
 obtain ⟨F, ⟨⟨xs, h1, ho1⟩, hF⟩, h2, h3⟩ := H.upd n' hn
 obtain ⟨hb, rfl⟩ := app_some hy
 obtain ⟨ht, hinf⟩ := he
 obtain ⟨i0, hi, hzz⟩ := Option.map_eq_some_iff.1 hinf
 simp only [Prod.mk.injEq] at hzz
 obtain ⟨hz0, hz1, hz2⟩ := hzz
 obtain ⟨v', w', hr, h4, h5, h6⟩ := run_appstr (P := P) w 0 t u ty e i0 ht hu hi hz0 hz1 hz2 _ l.length xs ho1 ⟨x.toArray⟩ (by show l.length + x.length ≤ _; simp only [maxLen]; omega) (by show l.length + x.length ≤ _; omega) (Nat.zero_le _)
 obtain ⟨A', c1, rfl, h7, _⟩ := own_shape h4
 have hs : (⟨x.toArray⟩ : ByteArray).size = x.length := rfl
 rw [hs, ← List.length_append] at h4 h6 hr
 refine runR ho (vS_run hr) (hk A' c1 w' (h3 w' (rowI rU8 e A' c1 (l ++ x)) (fun k => (Value.slice A' (l ++ x).length c1).ownBlock = some k) ((Kp.of_gb h5 (run_drawn _ _ hr)).mono (fun k _ e => (hF k).2 e.symm)) ⟨⟨xs ++ bs x, h1.app (Rows.u8.2 rfl), h4⟩, fun _ => Iff.rfl⟩ ?_))
 intro k hk
 rcases h6 with e | e
 ·exact .inl ((hF k).2 (e ▸ hk))
 ·rw [e] at hk
  cases hk
  exact .inr (Nat.le_refl _)
theorem St.rowCs' (H : St w0 F0 m0 m σ w) {α : Type} {r : Rep α} (n' : Nat) {A : Option Addr} {c : Nat} {l : List α} {t : TypeId} (hn : σ[n']? = some (rowI r t A c l)) : ∃ xs, Rows r m xs l ∧ Cs 0 w.heap.size w A xs := by
 obtain ⟨F, ⟨⟨xs, h1, ho⟩, hF⟩, _⟩ := H.upd n' hn
 exact ⟨xs, h1, Cs.of_own ho⟩
theorem s2bS (d : Option Nat) (src dst e : TypeId) (l : List UInt8) {u : TypeDesc} (H : St w0 F0 m0 m σ w) (hs : P.underlying src = some u) (hd : P.underlying dst = some (.slice e)) (he : P.underlying e = some (.int .u8))
  (ho : fetch B n p i κ = some (d, vS (convert src dst (.string ⟨l.toArray⟩)))) (hk : ∀ A' c' m1 w1, Sub m m1 → SlI rU8 m1 A' c' l → St w0 F0 m0 m1 σ w1 → Z (putk d (.slice A' l.length c') κ) w1) (hlen : l.length ≤ 9223372036854775807) : Step P B n p i κ w Z := by
 have hx : Ex w (Lib.bytesWorld w e ⟨l.toArray⟩) := ⟨rfl, rfl, rfl, by rw [Lib.bytesWorld_size]; omega, fun k hk _ => Lib.bytesWorld_at_old w e _ k hk, bytesWorld_drawn w e _⟩
 have hnew := Lib.bytesWorld_at_new w e ⟨l.toArray⟩
 have H1 := H.add (j := objI w.heap.size _) (G := fun k => k = w.heap.size) hx ⟨hnew, fun _ => Iff.rfl⟩ (fun k e => by subst e; exact Nat.le_refl _)
 obtain ⟨F, m1, h1, h2, h3, h4⟩ := H1.fix0
 refine runR ho (vS_run (Lib.run_convert_string_bytes w src dst e ⟨l.toArray⟩ hs hd he)) (hk _ _ m1 _ h2 ⟨grownCap_ge w (⟨l.toArray⟩ : ByteArray).size 0 e, grownCap_le_maxLen w (⟨l.toArray⟩ : ByteArray).size 0 e hlen, bs l, Rows.u8.2 rfl, ?_⟩ h4)
 intro j v hj
 have hlt : j < l.length := by
  have := (List.getElem?_eq_some_iff.1 hj).1
  rwa [bs_length] at this
 refine ⟨_, rfl, ?_⟩
 have hb := (h3 w.heap.size ((h1.2 _).2 rfl)).trans h1.1
 have hc := Lib.bytesWorld_cell w e ⟨l.toArray⟩ j hlt
 simp only [World.cell?, hnew] at hc
 rw [Addr.add_lit, Nat.zero_add]
 simp only [mc, hb]
 rw [bs_get _ _ hlt] at hj
 rw [← hj]
 exact hc
theorem sliS (d : Option Nat) {α : Type} {r : Rep α} (t e : Nat) (A : Option Addr) (c : Nat) (l y : List α) (lo hi : Option Value) (a b : Int) (hs : SlI r m A c l) (ho : fetch B n p i κ = some (d, vS (Instr.sliceAt t (.slice A l.length c) lo hi none))) (ht : slB P t e r.sz = true)
  (hl : (lo = none ∧ a = 0) ∨ ∃ ik, lo = some (.int ik a)) (hh : (hi = none ∧ b = l.length) ∨ ∃ ik, hi = some (.int ik b)) (hy : slc l a b = some y)
  (hk : ∀ A' c', SlI r m A' c' y → Z (putk d (.slice A' y.length c') κ) w) : Step P B n p i κ w Z := by
 obtain ⟨⟨h1, h2, h3⟩, hy1, hy2⟩ := slc_some hy
 have hle := hs.le
 have e1 : ((a.toNat : Nat) : Int) = a := by omega
 have e2 : ((b.toNat : Nat) : Int) = b := by omega
 refine runR ho (sli_run t e r.sz A l.length c lo hi a.toNat b.toNat ht ?_ ?_ (by omega) (by omega)) ?_
 ·rcases hl with ⟨h, h'⟩ | ⟨ik, h⟩
  ·exact .inl ⟨h, by omega⟩
  ·exact .inr ⟨ik, a, h, e1.symm⟩
 ·rcases hh with ⟨h, h'⟩ | ⟨ik, h⟩
  ·exact .inl ⟨h, by omega⟩
  ·exact .inr ⟨ik, b, h, e2.symm⟩
 ·rw [show b.toNat - a.toNat = y.length by omega]
  refine hk _ _ ⟨by omega, Nat.le_trans (Nat.sub_le _ _) hs.max, ?_⟩
  obtain ⟨xs, h4, h5⟩ := hs.cs
  refine ⟨(xs.take (b.toNat * r.sz)).drop (a.toNat * r.sz), by rw [hy1]; exact (h4.take _).drop _, ?_⟩
  refine (h5.take _).cut a.toNat c ?_
  rw [List.length_take, h4.len]
  exact Nat.le_trans (Nat.min_le_right _ _) (Nat.mul_le_mul_right _ hs.le)
theorem idxS (d : Option Nat) (t e sz : Nat) (A : Option Addr) (a : Addr) (len cap : Nat) (ik : IntKind) (ix : Int) (hA : A = some a) (ho : fetch B n p i κ = some (d, vS (Instr.indexAt t (.slice A len cap) (.int ik ix)))) (ht : slB P t e sz = true)
  (h0 : 0 ≤ ix) (h1 : ix < len) (hk : Z (putk d (.pointer (some (a.add (ix.toNat * sz)))) κ) w) : Step P B n p i κ w Z :=
 idxR d t e sz A a len cap ik ix _ hA ho ht h0 h1 rfl hk
theorem slc_le {α : Type} {l y : List α} {a b : Int} (h : slc l a b = some y) : y.length ≤ l.length := by
 obtain ⟨⟨h1, h2, h3⟩, hy1, hy2⟩ := slc_some h
 omega
theorem str_idx_run (t : TypeId) (l : List UInt8) (ik : IntKind) (ix : Int) (b : UInt8) (ht : P.underlying t = some .string) (hb : idx l ix = some b) : (vS (Instr.index t (.string ⟨l.toArray⟩) (.int ik ix))).run P w = .ok (.value (.int .u8 (b.toNat : Int))) w := by
 obtain ⟨h0, h1, h2⟩ := idx_some hb
 have := str_run (P := P) (w := w) t l ik ix ix.toNat ht h0 h1 rfl
 rw [List.getD_eq_getElem?_getD, h2] at this
 exact this
theorem cat_runY (t : TypeId) {l x y : List UInt8} (hy : cat l x = some y) {w : World} : (vS (Op.stringOp .add ⟨l.toArray⟩ ⟨x.toArray⟩)).run P w = .ok (.value (.string ⟨y.toArray⟩)) w := by
 obtain ⟨h1, rfl⟩ := cat_some hy
 exact cat_run t l x h1
theorem str_slice_run (t : TypeId) (l y : List UInt8) (lo hi : Option Value) (a b : Int) (ht : P.underlying t = some .string)
  (hl : (lo = none ∧ a = 0) ∨ ∃ ik, lo = some (.int ik a)) (hh : (hi = none ∧ b = l.length) ∨ ∃ ik, hi = some (.int ik b)) (hy : slc l a b = some y) :
  (vS (Instr.sliceAt t (.string ⟨l.toArray⟩) lo hi none)).run P w = .ok (.value (.string ⟨y.toArray⟩)) w := by
 obtain ⟨⟨h1, h2, h3⟩, hy1, hy2⟩ := slc_some hy
 refine vS_run ?_
 have hs : (⟨l.toArray⟩ : ByteArray).size = l.length := rfl
 have hb : ∀ (ik : IntKind) (x : Int) (m : Nat) (c : BoundsCode), 0 ≤ x → x ≤ m → (Instr.sliceBound (.int ik x) m c).run P w = .ok x.toNat w := by
  intro ik x m c h0 hx
  simp only [Instr.sliceBound, asIntOf, Sem.run_bind, Sem.run_pure, Result.andThen_ok, h0, hx, and_self, if_true]
 have hbs : (Instr.sliceBounds false l.length l.length lo hi none).run P w = .ok (a.toNat, b.toNat, l.length) w := by
  have e2 : (((b.toNat : Nat)) : Int) = b := by omega
  have hb1 : ∀ ik c, (Instr.sliceBound (.int ik a) b.toNat c).run P w = .ok a.toNat w := fun ik c => hb ik a _ c h1 (by omega)
  have hb2 : ∀ ik c, (Instr.sliceBound (.int ik b) l.length c).run P w = .ok b.toNat w := fun ik c => hb ik b _ c (by omega) h3
  have hb3 : ∀ ik c, b = l.length → (Instr.sliceBound (.int ik a) l.length c).run P w = .ok a.toNat w := fun ik c e => hb ik a _ c h1 (by omega)
  rcases hl with ⟨rfl, rfl⟩ | ⟨ik, rfl⟩ <;> rcases hh with ⟨rfl, rfl⟩ | ⟨ik', rfl⟩
  ·simp only [Instr.sliceBounds, Sem.run_bind, Sem.run_pure, Result.andThen_ok, Int.toNat_natCast]; rfl
  ·simp only [Instr.sliceBounds, Sem.run_bind, Sem.run_pure, Result.andThen_ok, hb2]; rfl
  ·simp only [Instr.sliceBounds, Sem.run_bind, Sem.run_pure, Result.andThen_ok, hb3 _ _ rfl, Int.toNat_natCast]
  ·simp only [Instr.sliceBounds, Sem.run_bind, Sem.run_pure, Result.andThen_ok, hb1, hb2]
 have hx : (⟨l.toArray⟩ : ByteArray).extract a.toNat b.toNat = ⟨y.toArray⟩ := by
  apply ByteArray.ext
  rw [ByteArray.data_extract, hy1]
  simp [List.drop_take]
 simp only [Instr.sliceAt, Instr.slice, Sem.run_bind, Sem.run_pure, Result.andThen_ok, run_underlying ht, hs, hbs, hx, Option.isSome_none, Bool.false_eq_true, if_false]
end
def rdy1 (ops : Array Oper) (done : List Nat) (i : Nat) : Bool := !done.contains i && match ops[i]? with
 | some o => o.after.toList.all fun e => !Region.binds .any e || (Nat.blt e.on ops.size && done.contains e.on)
 | none => false
def rdyL (ops : Array Oper) (done : List Nat) : List Nat := (List.range ops.size).filter (rdy1 ops done)
theorem getD_fold : ∀ (done : List Nat) (l : Array Bool) (k : Nat) (d : Bool), k < l.size → (done.foldl (fun l i => l.setIfInBounds i true) l).getD k d = (done.contains k || l.getD k d)
 | [], l, k, d, h => by simp
 | i :: r, l, k, d, h => by
  rw [List.foldl_cons, getD_fold r _ k d (by simpa using h), List.contains_cons]
  by_cases e : k = i
  ·subst e
   simp [h]
  ·have e2 : (k == i) = false := by simpa using e
   rw [e2, Bool.false_or]
   congr 1
   rw [Array.getD_eq_getD_getElem?, Array.getD_eq_getD_getElem?, Array.getElem?_setIfInBounds_ne (fun h => e h.symm)]
theorem listed_get (m : Nat) (done : List Nat) (k : Nat) (d : Bool) (h : k < m) : (listedOf m done).getD k d = done.contains k := by
 unfold listedOf
 rw [getD_fold done _ k d (by simpa using h)]
 simp [h]
theorem listed_out (m : Nat) (done : List Nat) (k : Nat) (h : m ≤ k) (d : Bool) : (listedOf m done).getD k d = d := by
 have hs : (listedOf m done).size = m := by
  unfold listedOf
  have : ∀ (done : List Nat) (l : Array Bool), (done.foldl (fun l i => l.setIfInBounds i true) l).size = l.size := by
   intro done
   induction done with
   | nil => intro l; rfl
   | cons i r ih => intro l; rw [List.foldl_cons, ih]; simp
  rw [this]; simp
 rw [Array.getD_eq_getD_getElem?, Array.getElem?_eq_none (by omega)]
 rfl
theorem rdy_eq (ops : Array Oper) (done : List Nat) : Region.ready .any ops (listedOf ops.size done) = rdyL ops done := by
 unfold Region.ready rdyL
 refine List.filter_congr fun i hi => ?_
 have hi := List.mem_range.1 hi
 rw [listed_get _ _ _ _ hi]
 unfold rdy1
 congr 1
 rw [Array.getElem?_eq_getElem hi]
 simp only [Option.map_some, Option.getD_some]
 rw [← Array.all_toList]
 congr 1
 funext e
 congr 1
 by_cases h : e.on < ops.size
 ·rw [listed_get _ _ _ _ h, show Nat.blt e.on ops.size = true from by simpa [Nat.blt_eq] using h, Bool.true_and]
 ·rw [listed_out _ _ _ (by omega), show Nat.blt e.on ops.size = false from by rw [Bool.eq_false_iff]; intro hh; rw [Nat.blt_eq] at hh; exact h hh, Bool.false_and]
def edgeTo (o : Oper) (k : Nat) : Bool := o.after.toList.any fun e => Region.binds .any e && e.on == k
def statB (B : Code) (p : List Nat) : Bool := Region.noSelect (opsAt B p) && ((List.range (opsAt B p).size).all fun i => (List.range (opsAt B p).size).all fun j => Nat.beq j i || match (opsAt B p)[i]?, (opsAt B p)[j]? with
 | some oi, some oj => edgeTo oj i || edgeTo oi j || oi.apart (opsAt B p) oj
 | _, _ => true)
theorem free_of_stat {B : Code} {p : List Nat} (h : statB B p = true) {done : List Nat} {i : Nat} (hr : rdy1 (opsAt B p) done i = true) (hl : Nat.blt done.length (opsAt B p).size = true) : freeB B p done i = true := by
 unfold statB at h
 simp only [Bool.and_eq_true] at h
 obtain ⟨h1, h2⟩ := h
 have hi : i < (opsAt B p).size := by
  unfold rdy1 at hr
  simp only [Bool.and_eq_true] at hr
  have := hr.2
  split at this
  ·rename_i o ho; exact (Array.getElem?_eq_some_iff.1 ho).1
  ·cases this
 unfold freeB
 simp only [Bool.and_eq_true]
 refine ⟨h1, ?_, ?_, hl⟩
 ·unfold Region.free
  rw [Array.getElem?_eq_getElem hi]
  simp only [List.all_eq_true, List.mem_range]
  intro j hj
  have h3 := List.all_eq_true.1 (List.all_eq_true.1 h2 i (List.mem_range.2 hi)) j (List.mem_range.2 hj)
  rw [Array.getElem?_eq_getElem hi, Array.getElem?_eq_getElem hj] at h3
  rw [Array.getElem?_eq_getElem hj, listed_get _ _ _ _ hj]
  simp only [Bool.or_eq_true] at h3 ⊢
  rcases h3 with h3 | (h3 | h3) | h3
  ·exact .inl (.inl (by simpa using h3))
  ·refine .inr (.inl ?_)
   unfold edgeTo at h3
   rwa [Array.any_toList] at h3
  ·refine .inl (.inr ?_)
   unfold edgeTo at h3
   obtain ⟨e, he, h4⟩ := List.any_eq_true.1 h3
   simp only [Bool.and_eq_true, beq_iff_eq] at h4
   unfold rdy1 at hr
   rw [Array.getElem?_eq_getElem hi] at hr
   simp only [Bool.and_eq_true] at hr
   have h5 := List.all_eq_true.1 hr.2 e he
   simp only [h4.1, Bool.not_true, Bool.false_or, Bool.and_eq_true] at h5
   rw [← h4.2]
   exact h5.2
  ·exact .inr (.inr h3)
 ·rw [rdy_eq, List.contains_iff_mem]
  exact List.mem_filter.2 ⟨List.mem_range.2 hi, hr⟩
section
variable {P : Program} {B : Code} {Q : Exit → Act → World → Prop} [NPc Q] {J : Nat → Act → World → Prop} {n : Cx} {p : List Nat} {k : List It} {κ : Kn} {w : World} {fn : Func} {Rp : Ending → World → Prop} {w0 : World} {F0 : Nat → Prop} {m0 m : Mem} {σ : List Item}
theorem drawS (S : World → Prop) (H : St w0 F0 m0 m σ w) (hd : isDraw B p = true) (hm : P.follows .mixedOrders = true)
  (h : ∀ w1 : World, St w0 F0 m0 m σ w1 → D P B Q J n p k S [] κ w1) : R P B Q J n (.co p :: k) κ w :=
 drawR _ hd hm (h { w with drawn := w.drawn + 1 } (H.ex ⟨rfl, rfl, rfl, Nat.le_refl _, fun _ _ _ => rfl, Nat.le_succ _⟩))
variable {S : World → Prop} {done : List Nat} {i : Nat}
theorem stD2 (hr : (rdyL (opsAt B p) done == [i] && Nat.blt done.length (opsAt B p).size) = true) (hS : S w) (h : Step P B n p i κ w (fun κ' w' => D P B Q J n p k S (done ++ [i]) κ' w')) : D P B Q J n p k S done κ w := by
 simp only [Bool.and_eq_true, beq_iff_eq] at hr
 refine stD ?_ hS h
 unfold onlyB
 rw [rdy_eq, hr.1]
 simp [hr.2]
theorem allD2 (rs : List Nat) (hr : (rdyL (opsAt B p) done == rs && (!rs.isEmpty && Nat.blt done.length (opsAt B p).size)) = true) (hS : S w) (h : AllL (fun i => Step P B n p i κ w (fun κ' w' => D P B Q J n p k S (done ++ [i]) κ' w')) rs) : D P B Q J n p k S done κ w :=
 allD rs (by unfold readyB; rw [rdy_eq]; exact hr) hS h
theorem endD2 (hr : (rdyL (opsAt B p) done).isEmpty = true) (hS : S w) (h : R P B Q J n k κ w) : D P B Q J n p k S done κ w :=
 endD (by unfold doneB; rw [rdy_eq]; exact hr) hS h
def rdyB (B : Code) (p : List Nat) (done : List Nat) (i : Nat) : Bool := rdy1 (opsAt B p) done i && Nat.blt done.length (opsAt B p).size
theorem takeD2 {d : Option Nat} {s : Sem Next} {v : Value} (hst : statB B p = true) (hf : rdyB B p done i = true) (ho : fetch B n p i κ = some (d, s)) (hs : ∀ w', S w' → s.run P w' = .ok (.value v) w')
  (h : D P B Q J n p k S (done ++ [i]) (putk d v κ) w) : D P B Q J n p k S done κ w := by
 simp only [rdyB, Bool.and_eq_true] at hf
 exact takeD (free_of_stat hst hf.1 hf.2) ho hs h
end
end Go.Proofs.YtkleajhiihbefaaGreatDoor.K
set_option linter.unusedVariables false
set_option linter.unusedSimpArgs false
namespace Go.Proofs.YtkleajhiihbefaaGreatDoor.K
open Go Go.RowKit Go.ChangeShapes Go.WideShapes Go.ChangeAt
def Opn (P : Program) (t : TypeId) {α : Type} (r : Rep α) : Prop :=
 ∀ (H : Type) (enc : TypeId × Value → H) (W : World) (fuel : Nat) (cs : List Value) (x : DataW H × List MemPlace), DataW.trod enc P W 0 (fun _ => true) true fuel t cs = some x → ∃ a : α, r.im (memOf W) cs a ∧ r.wf a
theorem mc_memOf (W : World) (a : Addr) : mc (memOf W) a = W.cell? a := rfl
variable {P : Program} {t e : TypeId}
theorem opn_i64 (ht : P.underlying t = some (.int .i64)) : Opn P t rI64 := by
 intro H enc W fuel cs x h
 obtain ⟨n, rfl, _, hw⟩ := DataW.trod_int ht h
 exact ⟨n, rfl, wf_i64 hw⟩
theorem opn_u8 (ht : P.underlying t = some (.int .u8)) : Opn P t rU8 := by
 intro H enc W fuel cs x h
 obtain ⟨n, rfl, _, hw⟩ := DataW.trod_int ht h
 have := wf_u8 hw
 refine ⟨UInt8.ofNat n.toNat, ?_, trivial⟩
 have e : (UInt8.ofNat n.toNat).toNat = n.toNat % 256 := by simp
 show [Value.int .u8 n] = [Value.int .u8 ((UInt8.ofNat n.toNat).toNat : Int)]
 rw [e, show ((n.toNat % 256 : Nat) : Int) = n by omega]
theorem opn_str (ht : P.underlying t = some .string) : Opn P t rStr := by
 intro H enc W fuel cs x h
 obtain ⟨s, rfl, _, hs⟩ := DataW.trod_string ht h
 have : s.data.toList.length ≤ 9223372036854775807 := by
  have h1 : s.data.toList.length ≤ maxLen := by simpa using hs
  exact h1
 exact ⟨s.data.toList, ⟨rfl, this⟩, this⟩
theorem opn_slice {α : Type} {r : Rep α} (ht : P.underlying t = some (.slice e)) (hc : P.cellsOf e = r.sz) (he : Opn P e r) : Opn P t (rSl r) := by
 intro H enc W fuel cs x h
 rcases Deep.open_slice ht h with ⟨rfl, _⟩ | ⟨a, len, cap, m, n, D, Pl, rfl, hb, hl, hm, hmm, _, hx⟩
 ·exact ⟨[], ⟨none, 0, rfl, SlI.nil _ _⟩, Nat.zero_le _, by simp⟩
 ·simp only [if_true] at hmm
  subst hmm
  have key : ∀ k, k ≤ m → ∃ (xs : List Value) (l : List α), l.length = k ∧ Rows r (memOf W) xs l ∧ (∀ j u, xs[j]? = some u → mc (memOf W) (a.add j) = some u) ∧ ∀ x ∈ l, r.wf x := by
   intro k
   induction k with
   | zero => exact fun _ => ⟨[], [], rfl, rfl, by simp, by simp⟩
   | succ k ih =>
    intro hk
    obtain ⟨xs, l, h1, h2, h3, h4⟩ := ih (by omega)
    obtain ⟨cs', h5, h6⟩ := hx k (by omega)
    obtain ⟨b, h7, h8⟩ := he H enc W n cs' _ h6
    refine ⟨xs ++ cs', l ++ [b], by simp [h1], h2.app (Rows.single h7), ?_, ?_⟩
    ·intro j u hj
     have hxl : xs.length = k * r.sz := by rw [h2.len, h1]
     rcases Nat.lt_or_ge j xs.length with hlt | hge
     ·rw [List.getElem?_append_left hlt] at hj
      exact h3 j u hj
     ·rw [List.getElem?_append_right hge] at hj
      obtain ⟨hlen, _, h9⟩ := World.cells?_some h5
      have hjl := (List.getElem?_eq_some_iff.1 hj).1
      have h10 := h9 (j - xs.length) (by rw [hc, ← r.len h7]; exact hjl)
      rw [hj, K.add_add, hc, ← hxl, show xs.length + (j - xs.length) = j by omega] at h10
      rw [mc_memOf]
      exact h10
    ·intro x hx'
     rcases List.mem_append.1 hx' with h | h
     ·exact h4 x h
     ·rw [List.mem_singleton] at h
      subst h
      exact h8
  obtain ⟨xs, l, h1, h2, h3, h4⟩ := key len hl
  have hm' : m ≤ 9223372036854775807 := hm
  refine ⟨l, ⟨some a, m, by rw [h1], ⟨by rw [h1]; exact hl, hm, xs, h2, fun j u hj => ⟨a, rfl, h3 j u hj⟩⟩⟩, by rw [h1]; omega, h4⟩
theorem open_rep {α : Type} {r : Rep α} {W : World} {H : Type} {enc : TypeId × Value → H} {v : Value} {d : DataW H} {ps : List MemPlace} (ho : Opn P t r) (h : DataW.Trod enc P W 0 (fun _ => true) true t v d ps) :
  ∃ a : α, r.im (memOf W) v.cells.toList a ∧ r.wf a := by
 obtain ⟨fuel, hf⟩ := h
 exact ho H enc W fuel _ _ hf
theorem open_sl {α : Type} {r : Rep α} {W : World} {H : Type} {enc : TypeId × Value → H} {A : Option Addr} {len cap : Nat} {d : DataW H} {ps : List MemPlace} (ho : Opn P t (rSl r)) (h : DataW.Trod enc P W 0 (fun _ => true) true t (.slice A len cap) d ps) :
  ∃ l : List α, len = l.length ∧ SlI r (memOf W) A cap l ∧ (rSl r).wf l := by
 obtain ⟨l, ⟨A', c', h1, h2⟩, h3⟩ := open_rep ho h
 simp [Value.cells] at h1
 obtain ⟨rfl, rfl, rfl⟩ := h1
 exact ⟨l, rfl, h2, h3⟩
end Go.Proofs.YtkleajhiihbefaaGreatDoor.K
set_option linter.unusedVariables false
set_option linter.unusedSimpArgs false
set_option linter.unusedSectionVars false
namespace Go.Proofs.YtkleajhiihbefaaGreatDoor.K
open Go Go.RowKit
def bigI (its : List Item) : Item where
 P m w F := Sep m w its F
 loc h hk := Sep.loc h hk
 mono hs h := Sep.mono hs h
 dom h := Sep.dom h
def exI {β : Type} (f : β → Item) : Item where
 P m w F := ∃ b, (f b).P m w F
 loc := fun ⟨b, h⟩ hk => ⟨b, (f b).loc h hk⟩
 mono hs := fun ⟨b, h⟩ => ⟨b, (f b).mono hs h⟩
 dom := fun ⟨b, h⟩ => (f b).dom h
def facI (p : Prop) : Item where
 P _ _ F := p ∧ ∀ k, ¬ F k
 loc h _ := h
 mono _ h := h
 dom h k hk := (h.2 k hk).elim
def slI {α : Type} (r : Rep α) (A : Option Addr) (c : Nat) (l : List α) : Item where
 P m _ F := SlI r m A c l ∧ ∀ k, ¬ F k
 loc h _ := h
 mono hs h := ⟨h.1.mono hs, h.2⟩
 dom h k hk := (h.2 k hk).elim
section
variable {w0 : World} {F0 : Nat → Prop} {m0 m : Mem} {σ τ : List Item} {w w1 : World}
theorem St.sepr (H : St w0 F0 m0 m σ w) (h : ∀ F, Sep m w σ F → Sep m w τ F) : St w0 F0 m0 m τ w := by
 obtain ⟨F, h1, h2⟩ := H.sep
 exact ⟨H.kp, H.sub, H.has, H.new, F, h F h1, h2⟩
theorem St.big (its : List Item) (H : St w0 F0 m0 m (its ++ σ) w) : St w0 F0 m0 m (bigI its :: σ) w := H.sepr fun F h => Sep.app.1 h
theorem St.unbig {its : List Item} (H : St w0 F0 m0 m (bigI its :: σ) w) : St w0 F0 m0 m (its ++ σ) w := H.sepr fun F h => Sep.app.2 h
theorem St.exi {β : Type} {f : β → Item} (b : β) (H : St w0 F0 m0 m (f b :: σ) w) : St w0 F0 m0 m (exI f :: σ) w :=
 H.sepr fun F ⟨F1, F2, h1, h2⟩ => ⟨F1, F2, ⟨b, h1⟩, h2⟩
theorem St.unex {β : Type} {f : β → Item} (H : St w0 F0 m0 m (exI f :: σ) w) : ∃ b, St w0 F0 m0 m (f b :: σ) w := by
 obtain ⟨F, ⟨F1, F2, ⟨b, h1⟩, h2⟩, h3⟩ := H.sep
 exact ⟨b, H.kp, H.sub, H.has, H.new, F, ⟨F1, F2, h1, h2⟩, h3⟩
theorem St.swap (H : St w0 F0 m0 m (σ ++ τ) w) : St w0 F0 m0 m (τ ++ σ) w := H.sepr fun F h => by
 obtain ⟨F1, F2, h1, h2, h3, h4⟩ := Sep.app.1 h
 exact Sep.app.2 ⟨F2, F1, h2, h1, fun k a b => h3 k b a, fun k => (h4 k).trans Or.comm⟩
theorem St.obj {g : Nat} {o : Obj} (H : St w0 F0 m0 m (objI g o :: σ) w) : w.heap[g]? = some o := by
 obtain ⟨F, h1, _⟩ := H.upd 0 rfl
 exact h1.1
theorem kp_putObj (w : World) (g : Nat) (o : Obj) : Kp (fun k => k = g) w (w.putObj g o) :=
 ⟨rfl, rfl, rfl, by simp, fun k _ hk => World.putObj_heap_other hk, Nat.le_refl _⟩
theorem St.putObj {g : Nat} {o : Obj} (o' : Obj) (H : St w0 F0 m0 m (objI g o :: σ) w) : St w0 F0 m0 m (objI g o' :: σ) (w.putObj g o') := by
 obtain ⟨F, h1, h2, h3⟩ := H.upd 0 rfl
 exact h3 _ (objI g o') (fun k => k = g) ((kp_putObj w g o').mono (fun k _ e => (h1.2 k).2 e)) ⟨World.putObj_heap_same (blk_lt h1.1), fun k => Iff.rfl⟩ (fun k e => .inl ((h1.2 k).2 e))
theorem ex_allocO (w : World) (o : Obj) : Ex w (w.alloc o) := ⟨rfl, rfl, rfl, by simp, fun k hk _ => Below.heap_alloc w o k hk, Nat.le_refl _⟩
theorem St.allocO (H : St w0 F0 m0 m σ w) (o : Obj) : St w0 F0 m0 m (objI w.heap.size o :: σ) (w.alloc o) :=
 H.add (ex_allocO w o) (j := objI w.heap.size o) (G := fun k => k = w.heap.size) ⟨World.alloc_heap_new w o, fun k => Iff.rfl⟩ (fun k e => by omega)
theorem St.mark {D : Nat} (H : St w0 F0 m0 m (objI D (.deferred (some [])) :: σ) w) : w.heap[D]? = some (.deferred (some [])) ∧ St w0 F0 m0 m σ (w.putObj D (.deferred none)) :=
 ⟨H.obj, (H.putObj _).drop0⟩
end
def Yld {α σs ρs : Type} (P : Program) (l : Nat) (m : Mem) (im : Mem → Array Value → α → Prop) (X : σs → Item) (Y : ρs → Item) (bd : σs → α → Option (Sum σs ρs)) : Prop :=
 ∀ (s : σs) (x : α) (y : Sum σs ρs) (args : Array Value) (m1 : Mem) (W : World) (F : Nat → Prop), Sub m m1 → Has m1 W → im m1 args x → Sep m1 W [X s] F → (∀ k, F k → m1 k = none) → bd s x = some y →
  ∃ fn tmps assign body, (Instr.yield l args).run P W = .ok (.round l fn tmps assign body) W ∧
   RoundIn (Fr none) 0 P l fn tmps assign body W fun e W' => ∃ m2, e = .returned (.bool y.isLeft) ∧ St W F m1 m2 [Sum.elim X Y y] W'
theorem Yld.sub {α σs ρs : Type} {P : Program} {l : Nat} {m m' : Mem} {im : Mem → Array Value → α → Prop} {X : σs → Item} {Y : ρs → Item} {bd : σs → α → Option (Sum σs ρs)} (h : Yld P l m im X Y bd) (hs : Sub m m') : Yld P l m' im X Y bd :=
 fun s x y args m1 W F h1 => h s x y args m1 W F (hs.trans h1)
section
variable {P : Program} {B : Code} {n : Cx} {p : List Nat} {i : Nat} {κ : Kn} {w : World} {Z : Kn → World → Prop} {w0 : World} {F0 : Nat → Prop} {m0 m m1 : Mem} {σ : List Item}
end
section
variable {P : Program} {B : Code} {Q : Exit → Act → World → Prop} {J : Nat → Act → World → Prop} {N : Nat} {ds : List Nat} {p : List Nat} {k : List It} {κ : Kn} {w : World} {w0 : World} {F0 : Nat → Prop} {m0 m : Mem} {σ : List Item}
end
section
variable {w0 : World} {F0 : Nat → Prop} {m0 m : Mem} {σ : List Item} {w : World}
theorem St.sl {α : Type} {r : Rep α} {A : Option Addr} {c : Nat} {l : List α} (hs : SlI r m A c l) (H : St w0 F0 m0 m σ w) : St w0 F0 m0 m (slI r A c l :: σ) w :=
 H.sepr fun F h => ⟨fun _ => False, F, ⟨hs, fun _ e => e⟩, h, fun _ e => e.elim, fun k => ⟨.inr, fun e => e.elim False.elim id⟩⟩
variable {P : Program} {B : Code} {J : Nat → Act → World → Prop} {n : Cx} {κ : Kn}
end
end Go.Proofs.YtkleajhiihbefaaGreatDoor.K
set_option linter.unusedVariables false
set_option linter.unusedSimpArgs false
set_option linter.unusedSectionVars false
namespace Go.Proofs.YtkleajhiihbefaaGreatDoor.K
open Go Go.RowKit
def arB (P : Program) (t N e sz : Nat) : Bool := match P.underlying t with
 | some (.array n e') => Nat.beq n N && (Nat.beq e' e && (match P.info? e with
  | some i => Nat.beq i.size sz
  | none => false))
 | _ => false
theorem ar_info {P : Program} {t N e sz : Nat} (h : arB P t N e sz = true) : P.underlying t = some (.array N e) ∧ ∃ i, P.info? e = some i ∧ i.size = sz := by
 unfold arB at h
 cases hu : P.underlying t with
 | none => simp [hu] at h
 | some d =>
  cases d <;> simp only [hu, Bool.false_eq_true] at h
  rename_i n e'
  simp only [Bool.and_eq_true] at h
  obtain ⟨h0, h1, h2⟩ := h
  have := Nat.eq_of_beq_eq_true h0
  subst this
  have := Nat.eq_of_beq_eq_true h1
  subst this
  cases hi : P.info? e' with
  | none => rw [hi] at h2; cases h2
  | some i =>
   rw [hi] at h2
   exact ⟨rfl, i, rfl, Nat.eq_of_beq_eq_true h2⟩
section
variable {P : Program} {B : Code} {n : Cx} {p : List Nat} {i : Nat} {κ : Kn} {w : World} {Z : Kn → World → Prop} {w0 : World} {F0 : Nat → Prop} {m0 m : Mem} {σ : List Item}
theorem idxA_run (t N e sz : Nat) (a : Addr) (ik : IntKind) (ix : Int) (ht : arB P t N e sz = true) (h0 : 0 ≤ ix) (h1 : ix < N) : (vS (Instr.indexAt t (.pointer (some a)) (.int ik ix))).run P w = .ok (.value (.pointer (some (a.add (ix.toNat * sz))))) w := by
 obtain ⟨h2, inf, h3, h4⟩ := ar_info ht
 refine vS_run ?_
 have hs : (sizeOf e).run P w = .ok sz w := by simp [sizeOf, typeInfo, h3, h4]
 have hc : 0 ≤ ix ∧ ix < N := ⟨h0, h1⟩
 simp only [Instr.indexAt, Instr.sureAddr, asIntOf, Sem.run_bind, Sem.run_pure, Result.andThen_ok, run_underlying h2, hc, and_self, if_true, hs]
theorem mcA {α : Type} {f : α → Value} {g off : Nat} {l : List α} {t : TypeId} {fr : Nat × Nat} {x : α} (h : m g = some (.cells (l.map f).toArray t fr)) (hx : l[off]? = some x) : mc m ⟨g, off, none⟩ = some (f x) :=
 mc_blk h (by rw [List.getElem?_map, hx]; rfl)
def TabM (m : Mem) (g : Nat) (cs : List Value) : Prop := ∃ t fr, m g = some (.cells cs.toArray t fr)
theorem TabM.mono {m m' : Mem} {g : Nat} {cs : List Value} (h : TabM m g cs) (hs : Sub m m') : TabM m' g cs := let ⟨t, fr, h1⟩ := h; ⟨t, fr, hs _ _ h1⟩
theorem TabM.at_ {α : Type} {f : α → Value} {g off : Nat} {l : List α} {x : α} (h : TabM m g (l.map f)) (hx : l[off]? = some x) : mc m ⟨g, off, none⟩ = some (f x) := let ⟨_, _, h1⟩ := h; mcA h1 hx
end
end Go.Proofs.YtkleajhiihbefaaGreatDoor.K
namespace Go.Proofs.YtkleajhiihbefaaGreatDoor.K
open Go
section
variable {P : Program} {w : World}
end
end Go.Proofs.YtkleajhiihbefaaGreatDoor.K
set_option linter.unusedVariables false
set_option linter.unusedSimpArgs false
set_option linter.unusedSectionVars false
namespace Go.Proofs.YtkleajhiihbefaaGreatDoor.K
open Go Go.RowKit Go.Op
section
variable {α : Type} {r : Rep α} {m : Mem}
theorem Rows.setc {x' : α} {j : Nat} {v : Value} : ∀ {l : List α} {xs : List Value} {i : Nat} {x : α}, Rows r m xs l → l[i]? = some x → (∀ cs, r.im m cs x → r.im m (cs.set j v) x') → j < r.sz → Rows r m (xs.set (i * r.sz + j) v) (l.set i x')
 | [], _, i, x, _, h, _, _ => by simp at h
 | y :: l, xs, 0, x, ⟨cs, ys, h1, h2, h3⟩, h, hu, hj => by
  simp at h
  subst h
  have hl := r.len h2
  refine ⟨cs.set j v, ys, ?_, hu cs h2, h3⟩
  rw [h1, Nat.zero_mul, Nat.zero_add, List.set_append_left _ _ (by omega)]
 | y :: l, xs, i + 1, x, ⟨cs, ys, h1, h2, h3⟩, h, hu, hj => by
  have hl := r.len h2
  have ih := h3.setc (i := i) (by simpa using h) hu hj
  refine ⟨cs, ys.set (i * r.sz + j) v, ?_, h2, ih⟩
  rw [h1, List.set_append_right _ _ (by rw [hl, Nat.add_mul]; omega), hl, Nat.add_mul, show i * r.sz + 1 * r.sz + j - r.sz = i * r.sz + j by omega]
end
section
variable {P : Program} {B : Code} {n : Cx} {p : List Nat} {i : Nat} {κ : Kn} {w : World} {Z : Kn → World → Prop} {w0 : World} {F0 : Nat → Prop} {m0 m : Mem} {σ : List Item}
theorem stElS (d : Option Nat) {α : Type} {r : Rep α} (t : TypeId) (n' i' j q : Nat) (A : Option Addr) (c : Nat) (l : List α) (e : TypeId) (x x' : α) (v : Value) (ad : Addr) (H : St w0 F0 m0 m σ w) (hn : σ[n']? = some (rowI r e A c l)) (hx : l[i']? = some x) (hA : A = some ad)
  (ho : fetch B n p i κ = some (d, uS (Instr.storeAt t (.pointer (some (ad.add q))) v))) (hq : q = i' * r.sz + j) (ht : oneB P t = true) (hv : v.oneCell' = true) (hj : j < r.sz) (hu : ∀ cs, r.im m cs x → r.im m (cs.set j v) x')
  (hk : ∀ w1, St w0 F0 m0 m (σ.set n' (rowI r e A c (l.set i' x'))) w1 → Z (putk d undef κ) w1) : Step P B n p i κ w Z := by
 obtain ⟨F, ⟨⟨xs, h1, ho1⟩, hF⟩, h2, h3⟩ := H.upd n' hn
 have hlt := (List.getElem?_eq_some_iff.1 hx).1
 have hlen := h1.len
 have hm : i' * r.sz + j < xs.length := by
  rw [hlen]
  have : (i' + 1) * r.sz ≤ l.length * r.sz := Nat.mul_le_mul_right _ hlt
  rw [Nat.add_mul] at this
  omega
 subst hq
 refine stOwnR d t 0 e r.sz A l.length c xs ad (i' * r.sz + j) v ho ht hv ho1 hA hm ?_
 intro w1 hown hkp hz
 refine hk w1 (h3 w1 (rowI r e A c (l.set i' x')) F (hkp.mono (fun k _ hk => (hF k).2 hk.symm)) ⟨⟨_, h1.setc hx hu hj, by rw [List.length_set]; exact hown⟩, fun k => by rw [List.length_set]; exact hF k⟩ (fun k hk => .inl hk))
structure Key (α : Type) [BEq α] where
 fk : α → Value
 td : TypeDesc
 same : ∀ a b : α, Instr.sameNow td (fk a) (fk b) = some (a == b)
 bits : ∀ a b : α, (a == b) = true → Instr.sameBits 10000 (fk b) (fk a) = true
 ref : ∀ a b : α, (a == b) = true → a = b
 chk : ∀ (P : Program) (w : World) (e : Bool) (t : TypeId) (a : α), P.underlying t = some td → (Instr.checkKey e 10000 t (fk a)).run P w = .ok () w
def mget {α β : Type} [BEq α] (l : List (α × β)) (k : α) : Option β := (l.find? (fun x => k == x.1)).map (·.2)
def mput {α β : Type} [BEq α] : List (α × β) → α → β → List (α × β)
 | [], k, v => [(k, v)]
 | x :: l, k, v => if k == x.1 then (k, v) :: l else x :: mput l k v
def Born (es : List MapEntry) (clock : Nat) : Prop := (es.map (·.born)).Nodup ∧ ∀ e ∈ es, e.born < clock
def mapI {α β : Type} [BEq α] (K : Key α) (fv : β → Value) (g : Nat) (l : List (α × β)) : Item where
 P _ w F := (∃ es clock, w.heap[g]? = some (.map es clock) ∧ es.toList.map (fun e => (e.key, e.val)) = l.map (fun x => (K.fk x.1, fv x.2)) ∧ Born es.toList clock) ∧ ∀ k, F k ↔ k = g
 loc := fun ⟨⟨es, c, h, h2⟩, hF⟩ hk => ⟨⟨es, c, (hk _ ((hF _).2 rfl)).trans h, h2⟩, hF⟩
 mono := fun _ h => h
 dom := fun ⟨⟨es, c, h, _⟩, hF⟩ k hk => by rw [hF] at hk; subst hk; exact blk_lt h
theorem findNow_ok {α β : Type} [BEq α] (K : Key α) (fv : β → Value) (k : α) : ∀ (l : List (α × β)) (es : List MapEntry) (i0 : Nat), es.map (fun e => (e.key, e.val)) = l.map (fun x => (K.fk x.1, fv x.2)) →
  Instr.findNow K.td (K.fk k) es i0 = some ((l.findIdx? (fun x => k == x.1)).bind fun j => (l[j]?).map fun x => (i0 + j, fv x.2))
 | [], es, i0, h => by
  have : es = [] := by simpa using h
  subst this
  rfl
 | x :: l, es, i0, h => by
  cases es with
  | nil => simp at h
  | cons e es =>
   simp only [List.map_cons, List.cons.injEq, Prod.mk.injEq] at h
   obtain ⟨⟨h1, h2⟩, h3⟩ := h
   unfold Instr.findNow
   rw [h1, K.same k x.1]
   cases hb : (k == x.1)
   ·simp only []
    rw [findNow_ok K fv k l es (i0 + 1) h3, List.findIdx?_cons, hb]
    simp only [Bool.false_eq_true, if_false]
    cases l.findIdx? (fun x => k == x.1) with
    | none => rfl
    | some j => simp [Nat.add_assoc, Nat.add_comm 1 j]
   ·simp only []
    rw [List.findIdx?_cons, hb]
    simp [h2]
theorem mget_idx {α β : Type} [BEq α] (k : α) : ∀ l : List (α × β), mget l k = (l.findIdx? (fun x => k == x.1)).bind fun j => (l[j]?).map (·.2)
 | [] => rfl
 | x :: l => by
  have ih := mget_idx k l
  unfold mget at ih ⊢
  rw [List.find?_cons, List.findIdx?_cons]
  cases hb : (k == x.1)
  ·simp only [Bool.false_eq_true, if_false]
   rw [ih]
   cases l.findIdx? (fun x => k == x.1) <;> rfl
  ·simp
theorem mput_idx {α β : Type} [BEq α] (k : α) (v : β) (hr : ∀ a b : α, (a == b) = true → a = b) : ∀ l : List (α × β), mput l k v = match l.findIdx? (fun x => k == x.1) with
  | some j => l.set j (k, v)
  | none => l ++ [(k, v)]
 | [] => rfl
 | x :: l => by
  have ih := mput_idx k v hr l
  unfold mput
  rw [List.findIdx?_cons]
  cases hb : (k == x.1)
  ·simp only [Bool.false_eq_true, if_false]
   rw [ih]
   cases l.findIdx? (fun x => k == x.1) <;> rfl
  ·simp
section
variable {α β : Type} [BEq α] {K : Key α} {fv : β → Value}
theorem St.mapAt (H : St w0 F0 m0 m σ w) (n' : Nat) {g : Nat} {l : List (α × β)} (hn : σ[n']? = some (mapI K fv g l)) : ∃ es clock, w.heap[g]? = some (.map es clock) ∧ es.toList.map (fun e => (e.key, e.val)) = l.map (fun x => (K.fk x.1, fv x.2)) := by
 obtain ⟨F, ⟨⟨es, clock, h1, h2, _⟩, _⟩, _⟩ := H.upd n' hn
 exact ⟨es, clock, h1, h2⟩
def tupOk (ok : Bool) (v : Value) (b : Bool) : Value := if ok then .tuple #[v, .bool b] else v
theorem findKey_ok {l : List (α × β)} {es : List MapEntry} (kt : TypeId) (hk : P.underlying kt = some K.td) (h : es.map (fun e => (e.key, e.val)) = l.map (fun x => (K.fk x.1, fv x.2))) (k : α) :
  (Instr.findKey kt (K.fk k) es).run P w = .ok ((l.findIdx? (fun x => k == x.1)).bind fun j => (l[j]?).map fun x => (j, fv x.2)) w := by
 have h2 := findNow_ok K fv k l es 0 h
 simp only [Nat.zero_add] at h2
 unfold Instr.findKey
 rw [Sem.run_bind, run_underlying hk, Result.andThen_ok, h2]
 rfl
theorem getM {g : Nat} {es : Array MapEntry} {clock : Nat} (hb : w.heap[g]? = some (.map es clock)) : (getObj g).run P w = .ok (.map es clock) w := by simp [getObj, Sem.run, hb]
theorem setM {g : Nat} {es : Array MapEntry} {clock : Nat} (o : Obj) (hb : w.heap[g]? = some (.map es clock)) : (setObj g o).run P w = .ok () (w.putObj g o) := by simp [setObj, Sem.run, hb, World.putObj]
theorem look_run (t kt e g : Nat) (ok : Bool) (k : α) (z : β) (hz : (zeroValue e).run P w = .ok (fv z) w) (ht : P.underlying t = some (.map kt e)) (hk : P.underlying kt = some K.td) {l : List (α × β)} {es : Array MapEntry} {clock : Nat}
  (hg : w.heap[g]? = some (.map es clock)) (h : es.toList.map (fun e => (e.key, e.val)) = l.map (fun x => (K.fk x.1, fv x.2))) :
  (Instr.lookup t (.map (some g)) (K.fk k) ok).run P w = .ok (tupOk ok (fv ((mget l k).getD z)) (mget l k).isSome) w := by
 have h1 := findKey_ok (w := w) kt hk h k
 have h2 := K.chk P w es.isEmpty kt k hk
 unfold Instr.lookup
 simp only [Sem.run_bind, Sem.run_pure, Result.andThen_ok, run_underlying ht, getM hg, h2, h1, mget_idx]
 cases hf : l.findIdx? (fun x => k == x.1) with
 | none => cases ok <;> simp [hz, tupOk]
 | some j =>
  have hj : j < l.length := (List.findIdx?_eq_some_iff_getElem.1 hf).1
  cases ok <;> simp [List.getElem?_eq_getElem hj, tupOk]
theorem modify_map {l : List (α × β)} {es : List MapEntry} (h : es.map (fun e => (e.key, e.val)) = l.map (fun x => (K.fk x.1, fv x.2))) (j : Nat) (k : α) (v : β) (hj : j < l.length) :
  (es.modify j (fun e => { e with key := K.fk k, val := fv v })).map (fun e => (e.key, e.val)) = (l.set j (k, v)).map (fun x => (K.fk x.1, fv x.2)) := by
 apply List.ext_getElem?
 intro i
 have hi := congrArg (fun l => l[i]?) h
 simp only [List.getElem?_map] at hi ⊢
 rw [List.getElem?_modify, List.getElem?_set]
 by_cases e : j = i
 ·subst e
  rw [List.getElem?_eq_getElem hj] at hi
  cases he : es[j]? with
  | none => rw [he] at hi; cases hi
  | some x => simp [hj]
 ·rw [if_neg e, ← hi]
  cases es[i]? <;> simp [e]
theorem Born.push {es : List MapEntry} {clock : Nat} (h : Born es clock) (e : MapEntry) (he : e.born = clock) : Born (es ++ [e]) (clock + 1) := by
 refine ⟨?_, fun x hx => ?_⟩
 ·rw [List.map_append, List.nodup_append]
  refine ⟨h.1, by simp, ?_⟩
  intro a ha b hb
  obtain ⟨x, hx, rfl⟩ := List.mem_map.1 ha
  have := h.2 x hx
  simp only [List.map_cons, List.map_nil, List.mem_singleton] at hb
  subst hb
  omega
 ·rcases List.mem_append.1 hx with hx | hx
  ·have := h.2 x hx
   omega
  ·rw [List.mem_singleton.1 hx]
   omega
theorem Born.modify {es : List MapEntry} {clock : Nat} (h : Born es clock) (j : Nat) (k v : Value) : Born (es.modify j (fun e => { e with key := k, val := v })) clock := by
 have hm : (es.modify j (fun e => { e with key := k, val := v })).map (·.born) = es.map (·.born) := by
  apply List.ext_getElem?
  intro i
  simp only [List.getElem?_map, List.getElem?_modify]
  cases es[i]? with
  | none => rfl
  | some x => by_cases e : j = i <;> simp [e]
 refine ⟨hm ▸ h.1, fun x hx => ?_⟩
 have : x.born ∈ (es.modify j (fun e => { e with key := k, val := v })).map (·.born) := List.mem_map.2 ⟨x, hx, rfl⟩
 rw [hm] at this
 obtain ⟨y, hy, e⟩ := List.mem_map.1 this
 have := h.2 y hy
 omega
theorem updM_run (t kt e g : Nat) (k : α) (v : β) (ht : P.underlying t = some (.map kt e)) (hk : P.underlying kt = some K.td) {l : List (α × β)} {es : Array MapEntry} {clock : Nat}
  (hg : w.heap[g]? = some (.map es clock)) (h : es.toList.map (fun e => (e.key, e.val)) = l.map (fun x => (K.fk x.1, fv x.2))) (hB : Born es.toList clock) :
  ∃ es' clock', (Instr.mapUpdate t (.map (some g)) (K.fk k) (fv v)).run P w = .ok () (w.putObj g (.map es' clock')) ∧ es'.toList.map (fun e => (e.key, e.val)) = (mput l k v).map (fun x => (K.fk x.1, fv x.2)) ∧ Born es'.toList clock' := by
 have h1 := findKey_ok (w := w) kt hk h k
 have h2 := K.chk P w false kt k hk
 have h3 := mput_idx k v K.ref l
 unfold Instr.mapUpdate
 rw [Sem.run_bind, run_underlying ht, Result.andThen_ok]
 dsimp only
 rw [Sem.run_bind, getM hg, Result.andThen_ok]
 dsimp only
 rw [Sem.run_bind, h2, Result.andThen_ok, Sem.run_bind, h1, Result.andThen_ok]
 cases hf : l.findIdx? (fun x => k == x.1) with
 | none =>
  rw [hf] at h3
  refine ⟨es.push { key := K.fk k, val := fv v, born := clock }, clock + 1, setM _ hg, ?_, ?_⟩
  ·rw [h3]
   simp [h]
  ·rw [Array.toList_push]
   exact Born.push hB _ rfl
 | some j =>
  obtain ⟨hj, hkj, _⟩ := List.findIdx?_eq_some_iff_getElem.1 hf
  rw [hf] at h3
  have hjs : j < es.toList.length := by
   have := congrArg List.length h
   simp only [List.length_map] at this
   omega
  have hkey : (es.toList[j]).key = K.fk l[j].1 := by
   have := congrArg (fun l => l[j]?) h
   simp only [List.getElem?_map, List.getElem?_eq_getElem hj, List.getElem?_eq_getElem hjs, Option.map_some, Option.some.injEq, Prod.mk.injEq] at this
   exact this.1
  have hes : (es[j]?.map (·.key)).getD (K.fk k) = K.fk l[j].1 := by
   have : es[j]? = some es.toList[j] := by
    rw [← Array.getElem?_toList]; exact List.getElem?_eq_getElem hjs
   rw [this, ← hkey]
   rfl
  refine ⟨es.modify j (fun e => { e with key := K.fk k, val := fv v }), clock, ?_, ?_, ?_⟩
  ·rw [Option.bind_some, List.getElem?_eq_getElem hj]
   dsimp only [Option.map_some]
   rw [Sem.run_bind, hes]
   have hb := K.bits k l[j].1 hkj
   rw [show (Instr.keyThatStays (K.fk l[j].1) (K.fk k)).run P w = .ok (K.fk k) w from by unfold Instr.keyThatStays; rw [if_pos hb]; rfl, Result.andThen_ok]
   exact setM _ hg
  ·rw [h3, Array.toList_modify]
   exact modify_map h j k v hj
  ·rw [Array.toList_modify]
   exact hB.modify j _ _
end
theorem mputS {α β : Type} [BEq α] {K : Key α} {fv : β → Value} (d : Option Nat) (t kt e n' g : Nat) (k : α) (v : β) (l : List (α × β)) (H : St w0 F0 m0 m σ w) (hn : σ[n']? = some (mapI K fv g l))
  (ho : fetch B n p i κ = some (d, uS (Instr.mapUpdate t (.map (some g)) (K.fk k) (fv v)))) (ht : P.underlying t = some (.map kt e)) (hk : P.underlying kt = some K.td)
  (hX : ∀ w1, St w0 F0 m0 m (σ.set n' (mapI K fv g (mput l k v))) w1 → Z (putk d undef κ) w1) : Step P B n p i κ w Z := by
 obtain ⟨F, ⟨⟨es, clock, h1, h2, hB⟩, hF⟩, h3, h4⟩ := H.upd n' hn
 obtain ⟨es', clock', h5, h6⟩ := updM_run t kt e g k v ht hk h1 h2 hB
 refine skipR ho (uS_run h5) (hX _ ?_)
 exact h4 _ (mapI K fv g (mput l k v)) (fun k => k = g) ((kp_putObj w g _).mono (fun k _ e => (hF k).2 e)) ⟨⟨es', clock', World.putObj_heap_same (blk_lt h1), h6⟩, fun _ => Iff.rfl⟩ (fun k e => .inl ((hF k).2 e))
theorem mkmS {α β : Type} [BEq α] (K : Key α) (fv : β → Value) (d : Option Nat) (t : TypeId) (H : St w0 F0 m0 m σ w) (ho : fetch B n p i κ = some (d, vS (Instr.makeMap t none)))
  (hX : ∀ g w1, St w0 F0 m0 m (mapI K fv g [] :: σ) w1 → Z (putk d (.map (some g)) κ) w1) : Step P B n p i κ w Z := by
 refine runR ho (vS_run (show (Instr.makeMap t none).run P w = .ok (.map (some w.heap.size)) (w.alloc (.map #[] 0)) from rfl)) (hX w.heap.size _ ?_)
 exact H.add (ex_allocO w _) (j := mapI K fv w.heap.size []) (G := fun k => k = w.heap.size) ⟨⟨#[], 0, World.alloc_heap_new w _, rfl, List.Pairwise.nil, fun _ h => by cases h⟩, fun _ => Iff.rfl⟩ (fun k e => by omega)
theorem litc_run {P : Program} {w : World} (t e g : Nat) (cs : Array Value) (n' : Nat) (ht : P.underlying t = some (.slice e)) (he : P.underlying e = some (.int .u8)) (hg : w.heap[g]? = some (.cells cs e (0, 0))) :
  (convert t t (.slice (some ⟨g, 0, none⟩) n' n')).run P w = .ok (.slice (some ⟨g, 0, none⟩) n' n') (w.freeze ⟨g, cs.size, none⟩ 1) := by
 unfold convert
 simp only [Sem.run_bind, run_underlying ht, run_underlying he, Result.andThen_ok, beq_self_eq_true, markStringish]
 have hs : (shape g).run P w = .ok (some (e, cs.size)) w := by simp [shape, Sem.run, World.shape?, hg]
 simp only [hs, Result.andThen_ok, run_freeze, Sem.run_pure]
theorem frz_blk {w : World} {g : Nat} {cs : Array Value} {e n : Nat} (hg : w.heap[g]? = some (.cells cs e (0, 0))) : (w.freeze ⟨g, n, none⟩ 1).heap[g]? = some (.cells cs e (n, n + 1)) := by
 simp [World.freeze, Array.getElem?_modify, hg]
theorem frz_kp (w : World) (g n : Nat) : Kp (fun k => k = g) w (w.freeze ⟨g, n, none⟩ 1) := by
 refine ⟨rfl, rfl, rfl, by simp [World.freeze], fun k _ hk => ?_, by rw [freeze_drawn]; exact Nat.le_refl _⟩
 simp only [World.freeze, Nat.one_ne_zero, if_false, Array.getElem?_modify]
 rw [if_neg (fun e => hk e.symm)]
theorem litcS (d : Option Nat) (t e n' g : Nat) (l : List UInt8) (H : St w0 F0 m0 m σ w) (hn : σ[n']? = some (blkI g (bs l) e)) (ho : fetch B n p i κ = some (d, vS (convert t t (.slice (some ⟨g, 0, none⟩) l.length l.length)))) (ht : P.underlying t = some (.slice e)) (he : P.underlying e = some (.int .u8)) (hl : l.length ≤ maxLen)
  (hk : ∀ m1 w1, Sub m m1 → SlI rU8 m1 (some ⟨g, 0, none⟩) l.length l → St w0 F0 m0 m1 (σ.eraseIdx n') w1 → Z (putk d (.slice (some ⟨g, 0, none⟩) l.length l.length) κ) w1) : Step P B n p i κ w Z := by
 obtain ⟨F, h1, h2, h3⟩ := (H.pull n' hn).upd 0 rfl
 have hb := frz_blk (n := (bs l).toArray.size) h1.1
 have H1 := h3 _ (objI g _) (fun k => k = g) ((frz_kp w g (bs l).toArray.size).mono (fun k _ e => (h1.2 k).2 e)) ⟨hb, fun _ => Iff.rfl⟩ (fun k e => .inl ((h1.2 k).2 e))
 obtain ⟨F2, m1, g1, g2, g3, g4⟩ := H1.fix0
 refine runR ho (vS_run (litc_run t e g _ l.length ht he h1.1)) (hk m1 _ g2 ⟨Nat.le_refl _, hl, bs l, Rows.u8.2 rfl, ?_⟩ g4)
 intro j v hj
 refine ⟨_, rfl, ?_⟩
 have hb2 := (g3 g ((g1.2 _).2 rfl)).trans g1.1
 rw [Addr.add_lit, Nat.zero_add]
 simp only [mc, hb2]
 simpa using hj
def eqSc (d : Option TypeDesc) (x y : Value) : Option Bool := match d, x, y with
 | some (.int _), .int k a, .int k' b => if k = k' then some (a == b) else none
 | some .bool, .bool a, .bool b => some (a == b)
 | some .string, .string a, .string b => some (a.toList == b.toList)
 | _, _, _ => none
def eqFs (P : Program) (xs ys : Array Value) : List Field → Option Bool
 | [] => some true
 | f :: fs => if f.name = "_" then none else match P.plainKey f.type, xs[f.offset]?, ys[f.offset]? with
  | true, some x, some y => match eqSc (P.underlying f.type) x y with
   | some c => match eqFs P xs ys fs with
    | some r => some (c && r)
    | none => none
   | none => none
  | _, _, _ => none
theorem eqSc_ok {P : Program} {w : World} {t : TypeId} {x y : Value} {b : Bool} (d : Nat) (h : eqSc (P.underlying t) x y = some b) : (Op.equalIn (d + 1) t x y).run P w = .ok b w := by
 unfold eqSc at h
 split at h
 ·rename_i k1 k a k' b' e
  split at h
  ·rename_i e2
   subst e2
   cases h
   exact run_equalIn_int w d t k _ a b' e
  ·cases h
 ·cases h
  exact run_equalIn_bool' w d t _ _ (by assumption)
 ·cases h
  exact run_equalIn_string w d t _ _ (by assumption)
 ·cases h
theorem eqFs_ok {P : Program} {w : World} {xs ys : Array Value} (d : Nat) : ∀ {fs : List Field} {b : Bool}, eqFs P xs ys fs = some b → (Op.eqFields (d + 1) xs ys fs).run P w = .ok b w
 | [], b, h => by cases h; rfl
 | f :: fs, b, h => by
  unfold eqFs at h
  split at h
  ·cases h
  ·rename_i hn
   split at h
   ·rename_i x y hk hx hy
    split at h
    ·rename_i c hc
     split at h
     ·rename_i r hr
      cases h
      unfold Op.eqFields
      rw [if_pos hn]
      simp only [Sem.run_bind, run_part_plain w hk hx, run_part_plain w hk hy, Result.andThen_ok, eqSc_ok d hc]
      cases c
      ·rfl
      ·simp only [Bool.not_true, Bool.false_eq_true, if_false, Bool.true_and]
       exact eqFs_ok d hr
     ·cases h
    ·cases h
   ·cases h
def eqSem (op : BinOp) (t : TypeId) (x y : Operand) (a b : Value) : Sem Next := vS (do eqGuard op t x y a b; binOp op t a b)
theorem eqAgg_run {P : Program} {w : World} (t : TypeId) (x y : Operand) (xs ys : Array Value) (b b' : Bool) (h : eqFs P xs ys (P.fieldsOf t).toList = some b) (hb : b = b') (hg : P.eqGuardType P.depth t = false) (ht : P.underlying t = some (.struct (P.fieldsOf t))) (hp : P.stoodInHeld t = false) :
  (eqSem .eql t x y (.agg xs) (.agg ys)).run P w = .ok (.value (.bool b')) w := by
 subst hb
 refine vS_run ?_
 rw [Sem.run_bind, run_eqGuard_agg w .eql t x y xs ys hg, Result.andThen_ok, run_eql_struct, run_equalIn_agg w 9999 t xs ys ht hp, eqFs_ok 9998 h]
 rfl
theorem neAgg_run {P : Program} {w : World} (t : TypeId) (x y : Operand) (xs ys : Array Value) (b b' : Bool) (h : eqFs P xs ys (P.fieldsOf t).toList = some b) (hb : b = b') (hg : P.eqGuardType P.depth t = false) (ht : P.underlying t = some (.struct (P.fieldsOf t))) (hp : P.stoodInHeld t = false) :
  (eqSem .neq t x y (.agg xs) (.agg ys)).run P w = .ok (.value (.bool (!b'))) w := by
 subst hb
 refine vS_run ?_
 rw [Sem.run_bind, run_eqGuard_agg w .neq t x y xs ys hg, Result.andThen_ok, run_neq_struct, run_equalIn_agg w 9999 t xs ys ht hp, eqFs_ok 9998 h]
 rfl
def kI64 : Key Int where
 fk x := .int .i64 x
 td := .int .i64
 same _ _ := rfl
 bits a b h := by rw [eq_of_beq h]; simp [Instr.sameBits]
 ref a b h := eq_of_beq h
 chk P w e t a ht := by unfold Instr.checkKey; rw [Sem.run_bind, run_underlying ht, Result.andThen_ok]; rfl
theorem bytes_beq (a b : List UInt8) : ((⟨a.toArray⟩ : ByteArray) == ⟨b.toArray⟩) = (a == b) := by
 show (a.toArray == b.toArray) = (a == b)
 rw [Bool.eq_iff_iff, beq_iff_eq, beq_iff_eq]
 constructor
 ·intro h
  have := congrArg (fun x : Array UInt8 => x.toList) h
  simpa using this
 ·intro h; rw [h]
def kStr : Key (List UInt8) where
 fk x := .string ⟨x.toArray⟩
 td := .string
 same a b := by show some _ = some _; rw [bytes_beq]
 bits a b h := by rw [eq_of_beq h]; show ((⟨b.toArray⟩ : ByteArray) == ⟨b.toArray⟩) = true; rw [bytes_beq]; simp
 ref a b h := eq_of_beq h
 chk P w e t a ht := by unfold Instr.checkKey; rw [Sem.run_bind, run_underlying ht, Result.andThen_ok]; rfl
end
end Go.Proofs.YtkleajhiihbefaaGreatDoor.K
set_option linter.unusedVariables false
set_option linter.unusedSimpArgs false
set_option linter.unusedSectionVars false
namespace Go.Proofs.YtkleajhiihbefaaGreatDoor.K
open Go Go.RowKit Go.Op
structure ORep (α : Type) where
 fr : Rep α
 it : List Value → α → Item
 len : ∀ {m w F cs x}, (it cs x).P m w F → cs.length = fr.sz
 one : ∀ {m w F cs x}, (it cs x).P m w F → ∀ u ∈ cs, u.oneCell' = true
 fix : ∀ {m m1 : Mem} {w : World} {F cs x}, (it cs x).P m w F → Sub m m1 → (∀ k, F k → m1 k = w.heap[k]?) → fr.im m1 cs x
def rawI (t sz : Nat) (A : Option Addr) (c n : Nat) (xs : List Value) : Item where
 P _ w F := w.ownsRow 0 t sz (.slice A n c) n xs ∧ ∀ k, F k ↔ (Value.slice A n c).ownBlock = some k
 loc := fun ⟨h, hF⟩ hk => ⟨own_loc h (fun k e => hk k ((hF k).2 e)), hF⟩
 mono _ h := h
 dom := fun ⟨h, hF⟩ k hk => own_lt h k ((hF k).1 hk).symm
def els {α : Type} (o : ORep α) (css : List (List Value)) (l : List α) : List Item := (css.zip l).map fun x => o.it x.1 x.2
def rowO {α : Type} (o : ORep α) (t : TypeId) (A : Option Addr) (c : Nat) (l : List α) : Item :=
 exI fun css : List (List Value) => bigI (facI (css.length = l.length) :: rawI t o.fr.sz A c l.length css.flatten :: els o css l)
def holeO {α : Type} (o : ORep α) (t : TypeId) (A : Option Addr) (c : Nat) (l : List α) (i : Nat) (cs : List Value) : Item :=
 exI fun q : List (List Value) × List (List Value) => bigI (facI (q.1.length = i ∧ q.1.length + 1 + q.2.length = l.length ∧ (∀ z ∈ q.1, z.length = o.fr.sz) ∧ cs.length = o.fr.sz) :: rawI t o.fr.sz A c l.length (q.1.flatten ++ (cs ++ q.2.flatten)) :: (els o q.1 (l.take i) ++ els o q.2 (l.drop (i + 1))))
theorem els_app {α : Type} (o : ORep α) {a b : List (List Value)} {l k : List α} (h : a.length = l.length) : els o (a ++ b) (l ++ k) = els o a l ++ els o b k := by
 unfold els
 rw [List.zip_append h, List.map_append]
theorem flat_sz {α : Type} (o : ORep α) {m : Mem} {w : World} : ∀ {css : List (List Value)} {l : List α} {F : Nat → Prop}, css.length = l.length → Sep m w (els o css l) F → ∀ z ∈ css, z.length = o.fr.sz
 | [], _, _, _, _ => by simp
 | z :: css, [], _, h, _ => by simp at h
 | z :: css, x :: l, F, h, ⟨F1, F2, h1, h2, _⟩ => by
  intro y hy
  rcases List.mem_cons.1 hy with rfl | hy
  ·exact o.len h1
  ·exact flat_sz o (by simpa using h) h2 y hy
theorem flat_lenO {sz : Nat} : ∀ {css : List (List Value)}, (∀ z ∈ css, z.length = sz) → css.flatten.length = css.length * sz
 | [], _ => by simp
 | z :: css, h => by
  rw [List.flatten_cons, List.length_append, h z (by simp), flat_lenO (fun y hy => h y (by simp [hy])), List.length_cons, Nat.add_mul]
  omega
section
variable {w0 : World} {F0 : Nat → Prop} {m0 m : Mem} {σ τ : List Item} {w w1 : World} {α : Type} {o : ORep α}
theorem St.unfac0 {p : Prop} (H : St w0 F0 m0 m (facI p :: σ) w) : p ∧ St w0 F0 m0 m σ w := by
 obtain ⟨F, ⟨F1, F2, h1, h2, h3, h4⟩, h5⟩ := H.sep
 exact ⟨h1.1, H.drop0⟩
theorem St.fac0 {p : Prop} (h : p) (H : St w0 F0 m0 m σ w) : St w0 F0 m0 m (facI p :: σ) w :=
 H.sepr fun F hs => ⟨fun _ => False, F, ⟨h, fun _ e => e⟩, hs, fun _ e => e.elim, fun k => ⟨.inr, fun e => e.elim False.elim id⟩⟩
theorem St.perm (H : St w0 F0 m0 m σ w) (h : σ.Perm τ) : St w0 F0 m0 m τ w := H.sepr fun F hs => by
 have key : ∀ {σ τ : List Item}, σ.Perm τ → ∀ F, Sep m w σ F → Sep m w τ F := by
  intro σ τ h
  induction h with
  | nil => intro F h; exact h
  | cons x _ ih => rintro F ⟨F1, F2, h1, h2, h3⟩; exact ⟨F1, F2, h1, ih F2 h2, h3⟩
  | swap x y l =>
   rintro F ⟨F1, F2, h1, ⟨F3, F4, h2, h3, h4, h5⟩, h6, h7⟩
   refine ⟨F3, fun k => F1 k ∨ F4 k, h2, ⟨F1, F4, h1, h3, fun k a b => h6 k a ((h5 k).2 (.inr b)), fun k => Iff.rfl⟩, ?_, ?_⟩
   ·intro k a b
    exact b.elim (fun b => h6 k b ((h5 k).2 (.inl a))) (h4 k a)
   ·intro k
    rw [h7, h5, or_left_comm]
  | trans _ _ i1 i2 => intro F h; exact i2 F (i1 F h)
 exact key h F hs
theorem St.openO (H : St w0 F0 m0 m σ w) (n : Nat) {t c : Nat} {A : Option Addr} {l : List α} (hn : σ[n]? = some (rowO o t A c l)) {i : Nat} {x : α} (hx : l[i]? = some x) :
  ∃ cs, St w0 F0 m0 m (o.it cs x :: holeO o t A c l i cs :: σ.eraseIdx n) w := by
 obtain ⟨css, H1⟩ := (H.pull n hn).unex
 obtain ⟨hl, H2⟩ := H1.unbig.unfac0
 have hi := (List.getElem?_eq_some_iff.1 hx).1
 have hxe : l[i] = x := (List.getElem?_eq_some_iff.1 hx).2
 have hic : i < css.length := by omega
 have hsz : ∀ z ∈ css, z.length = o.fr.sz := by
  obtain ⟨F, h1, _⟩ := H2.sep
  obtain ⟨F1, F2, _, h2, _⟩ := (h1 : Sep m w (rawI t o.fr.sz A c l.length css.flatten :: (els o css l ++ σ.eraseIdx n)) F)
  obtain ⟨G1, G2, h3, _⟩ := Sep.app.1 h2
  exact flat_sz o hl h3
 have e1 : css = css.take i ++ (css[i] :: css.drop (i + 1)) := by rw [List.getElem_cons_drop, List.take_append_drop]
 have e2 : l = l.take i ++ (x :: l.drop (i + 1)) := by rw [← hxe, List.getElem_cons_drop, List.take_append_drop]
 refine ⟨css[i], ?_⟩
 have e3 : els o css l = els o (css.take i) (l.take i) ++ (o.it css[i] x :: els o (css.drop (i + 1)) (l.drop (i + 1))) := by
  conv => lhs; rw [e1, e2, els_app o (by rw [List.length_take, List.length_take]; omega)]
  rfl
 have e4 : css.flatten = (css.take i).flatten ++ (css[i] ++ (css.drop (i + 1)).flatten) := by
  conv => lhs; rw [e1]
  rw [List.flatten_append, List.flatten_cons]
 have H2 : St w0 F0 m0 m (rawI t o.fr.sz A c l.length css.flatten :: (els o css l ++ σ.eraseIdx n)) w := H2
 rw [e3, e4] at H2
 refine St.perm (σ := holeO o t A c l i css[i] :: o.it css[i] x :: σ.eraseIdx n) ?_ (List.Perm.swap _ _ _)
 refine St.exi (css.take i, css.drop (i + 1)) (St.big _ ?_)
 refine St.fac0 ⟨by rw [List.length_take]; omega, by rw [List.length_take, List.length_drop]; omega, fun z hz => hsz z (List.mem_of_mem_take hz), hsz _ (List.getElem_mem hic)⟩ ?_
 refine H2.perm (List.Perm.cons _ (?_ : List.Perm _ ((els o (css.take i) (l.take i) ++ els o (css.drop (i + 1)) (l.drop (i + 1))) ++ (o.it css[i] x :: σ.eraseIdx n))))
 simp only [List.append_assoc, List.cons_append]
 refine List.Perm.append_left _ ?_
 exact (List.perm_middle (l₁ := els o (css.drop (i + 1)) (l.drop (i + 1))) (l₂ := σ.eraseIdx n) (a := o.it css[i] x)).symm
theorem St.closeO {t c i : Nat} {A : Option Addr} {l : List α} {cs : List Value} {x' : α} (H : St w0 F0 m0 m (o.it cs x' :: holeO o t A c l i cs :: σ) w) : St w0 F0 m0 m (rowO o t A c (l.set i x') :: σ) w := by
 obtain ⟨⟨q1, q2⟩, H1⟩ := (H.perm (List.Perm.swap _ _ _)).unex
 obtain ⟨⟨h1, h2, h3, h4⟩, H2⟩ := H1.unbig.unfac0
 dsimp only at h1 h2 h3 h4
 have hil : i < l.length := by omega
 refine St.exi (q1 ++ cs :: q2) (St.big _ (St.fac0 (by rw [List.length_set]; simp; omega) ?_))
 have e2 : l.set i x' = l.take i ++ (x' :: l.drop (i + 1)) := by rw [List.set_eq_take_append_cons_drop, if_pos hil]
 have e3 : els o (q1 ++ cs :: q2) (l.set i x') = els o q1 (l.take i) ++ (o.it cs x' :: els o q2 (l.drop (i + 1))) := by
  rw [e2, els_app o (by rw [List.length_take]; omega)]
  rfl
 rw [e3, List.length_set, show (q1 ++ cs :: q2).flatten = q1.flatten ++ (cs ++ q2.flatten) by simp]
 have H2 : St w0 F0 m0 m (rawI t o.fr.sz A c l.length (q1.flatten ++ (cs ++ q2.flatten)) :: ((els o q1 (l.take i) ++ els o q2 (l.drop (i + 1))) ++ (o.it cs x' :: σ))) w := H2
 refine H2.perm (List.Perm.cons _ (?_ : List.Perm _ ((els o q1 (l.take i) ++ (o.it cs x' :: els o q2 (l.drop (i + 1)))) ++ σ)))
 simp only [List.append_assoc, List.cons_append]
 refine List.Perm.append_left _ ?_
 exact List.perm_middle
theorem St.raw {t sz c k : Nat} {A : Option Addr} {xs : List Value} (H : St w0 F0 m0 m (rawI t sz A c k xs :: σ) w) : w.ownsRow 0 t sz (.slice A k c) k xs := by
 obtain ⟨F, h1, _⟩ := H.upd 0 rfl
 exact h1.1
theorem St.holeAt (H : St w0 F0 m0 m σ w) (n : Nat) {t c i : Nat} {A : Option Addr} {l : List α} {cs : List Value} (hn : σ[n]? = some (holeO o t A c l i cs)) (h0 : 0 < o.fr.sz) :
  ∃ ad, A = some ad ∧ cs.length = o.fr.sz ∧ i < l.length ∧ ∀ j v, cs[j]? = some v → w.cell? ((ad.add (i * o.fr.sz)).add j) = some v := by
 obtain ⟨⟨q1, q2⟩, H1⟩ := (H.pull n hn).unex
 obtain ⟨⟨h1, h2, h3, h4⟩, H2⟩ := H1.unbig.unfac0
 dsimp only at h1 h2 h3 h4
 have ho := St.raw (t := t) H2
 have hq := flat_lenO h3
 have hget : ∀ j v, cs[j]? = some v → (q1.flatten ++ (cs ++ q2.flatten))[i * o.fr.sz + j]? = some v := by
  intro j v hj
  have hjl := (List.getElem?_eq_some_iff.1 hj).1
  rw [List.getElem?_append_right (by rw [hq, h1]; omega), hq, h1, List.getElem?_append_left (by omega), show i * o.fr.sz + j - i * o.fr.sz = j by omega]
  exact hj
 obtain ⟨ad, rfl, _, _, _⟩ := Cs.of_own ho _ _ (hget 0 _ (List.getElem?_eq_getElem (by omega)))
 refine ⟨ad, rfl, h4, by omega, fun j v hj => ?_⟩
 obtain ⟨ad', e, _, _, h6⟩ := Cs.of_own ho _ _ (hget j v hj)
 cases e
 rw [add_add]
 exact h6
theorem St.rowOA (H : St w0 F0 m0 m σ w) (n : Nat) {t c i : Nat} {A : Option Addr} {l : List α} (hn : σ[n]? = some (rowO o t A c l)) {x : α} (hx : l[i]? = some x) : ∃ ad, A = some ad := by
 obtain ⟨css, H1⟩ := (H.pull n hn).unex
 obtain ⟨hl, H2⟩ := H1.unbig.unfac0
 have ho := St.raw (t := t) H2
 have hi := (List.getElem?_eq_some_iff.1 hx).1
 rcases ho.2 with ⟨_, h0⟩ | ⟨g, cap, cur, hv, _⟩
 ·omega
 ·cases hv; exact ⟨_, rfl⟩
theorem St.holeCell (H : St w0 F0 m0 m σ w) (n : Nat) {t c i : Nat} {A : Option Addr} {l : List α} {cs : List Value} (hn : σ[n]? = some (holeO o t A c l i cs)) {ad : Addr} (hA : A = some ad) (h0 : 0 < o.fr.sz) :
  ∀ j v, cs[j]? = some v → w.cell? ((ad.add (i * o.fr.sz)).add j) = some v := by
 obtain ⟨ad', e, _, _, h⟩ := H.holeAt n hn h0
 subst hA
 cases e
 exact h
end
section
variable {P : Program} {B : Code} {n : Cx} {p : List Nat} {i : Nat} {κ : Kn} {w : World} {Z : Kn → World → Prop} {w0 : World} {F0 : Nat → Prop} {m0 m : Mem} {σ : List Item} {α : Type} {o : ORep α}
theorem stHoleS (d : Option Nat) (t : TypeId) (n' i' j q : Nat) (A : Option Addr) (c : Nat) (l : List α) (e : TypeId) (cs : List Value) (v : Value) (ad : Addr) (H : St w0 F0 m0 m σ w) (hn : σ[n']? = some (holeO o e A c l i' cs)) (hA : A = some ad)
  (ho : fetch B n p i κ = some (d, uS (Instr.storeAt t (.pointer (some (ad.add q))) v))) (hq : q = i' * o.fr.sz + j) (ht : oneB P t = true) (hv : v.oneCell' = true) (hj : j < cs.length)
  (hk : ∀ w1, St w0 F0 m0 m (holeO o e A c l i' (cs.set j v) :: σ.eraseIdx n') w1 → Z (putk d undef κ) w1) : Step P B n p i κ w Z := by
 obtain ⟨⟨q1, q2⟩, H1⟩ := (H.pull n' hn).unex
 obtain ⟨⟨h1, h2, h3, h4⟩, H2⟩ := H1.unbig.unfac0
 dsimp only at h1 h2 h3 h4
 have H2 : St w0 F0 m0 m (rawI e o.fr.sz A c l.length (q1.flatten ++ (cs ++ q2.flatten)) :: ((els o q1 (l.take i') ++ els o q2 (l.drop (i' + 1))) ++ σ.eraseIdx n')) w := H2
 obtain ⟨F, ⟨ho1, hF⟩, h5, h6⟩ := H2.upd 0 rfl
 have hql := flat_lenO h3
 subst hq
 refine stOwnR d t 0 e o.fr.sz A l.length c _ ad (i' * o.fr.sz + j) v ho ht hv ho1 hA (by rw [List.length_append, List.length_append, hql, h1]; omega) ?_
 intro w1 hown hkp hz
 have e1 : (q1.flatten ++ (cs ++ q2.flatten)).set (i' * o.fr.sz + j) v = q1.flatten ++ (cs.set j v ++ q2.flatten) := by
  rw [List.set_append_right _ _ (by rw [hql, h1]; omega), hql, h1, show i' * o.fr.sz + j - i' * o.fr.sz = j by omega, List.set_append_left _ _ hj]
 rw [e1] at hown
 have H3 := h6 w1 (rawI e o.fr.sz A c l.length (q1.flatten ++ (cs.set j v ++ q2.flatten))) F (hkp.mono (fun k _ hk => (hF k).2 hk.symm)) ⟨hown, hF⟩ (fun k hk => .inl hk)
 refine hk w1 (St.exi (q1, q2) (St.big _ (St.fac0 ⟨h1, h2, h3, by rw [List.length_set]; exact h4⟩ H3)))
theorem stHole (d : Option Nat) (t : TypeId) (n' i' j : Nat) (A : Option Addr) (c : Nat) (l : List α) (e : TypeId) (cs : List Value) (v : Value) (ad : Addr) (H : St w0 F0 m0 m σ w) (hn : σ[n']? = some (holeO o e A c l i' cs)) (hA : A = some ad)
  (ho : fetch B n p i κ = some (d, uS (Instr.storeAt t (.pointer (some ((ad.add (i' * o.fr.sz)).add j))) v))) (ht : oneB P t = true) (hv : v.oneCell' = true) (hj : j < cs.length)
  (hk : ∀ w1, St w0 F0 m0 m (holeO o e A c l i' (cs.set j v) :: σ.eraseIdx n') w1 → Z (putk d undef κ) w1) : Step P B n p i κ w Z := by
 rw [add_add] at ho
 exact stHoleS d t n' i' j (i' * o.fr.sz + j) A c l e cs v ad H hn hA ho rfl ht hv hj hk
theorem St.nilO (H : St w0 F0 m0 m σ w) {α : Type} (o : ORep α) (t : TypeId) : St w0 F0 m0 m (rowO o t none 0 [] :: σ) w :=
 St.exi [] (St.big _ (St.fac0 rfl (H.add (Kp.refl _ _) (G := fun _ => False) ⟨World.ownsRow_nil _ _ _ _, fun k => ⟨False.elim, fun e => by cases e⟩⟩ (fun _ e => e.elim))))
theorem appOS (d : Option Nat) (t e by_ : Nat) (z : Value) (ty : TypeId) (A X : Option Addr) (c m' c' : Nat) (l y : List α) (x : α) (cs : List Value) {lo hi : Nat} (H : St w0 F0 m0 m (o.it cs x :: rowO o e A c l :: σ) w) (he : elB P t e o.fr.sz by_ z) (hz : z.cells.size = o.fr.sz) (hsz : 0 < o.fr.sz)
  (ho : fetch B n p i κ = some (d, vS (Builtin.append_ #[t, t] ty #[.slice A l.length c, .slice X m' c']))) (hX : Cs lo hi w X cs) (hm : 1 = m') (hy : app l [x] = some y) (hby : 0 < by_) (hby2 : by_ ≤ 1024)
  (hk : ∀ A' c1 w1, St w0 F0 m0 m (rowO o e A' c1 y :: σ) w1 → Z (putk d (.slice A' y.length c1) κ) w1) : Step P B n p i κ w Z := by
 obtain ⟨hb, rfl⟩ := app_some hy
 obtain ⟨css, H1⟩ := (H.perm (List.Perm.swap _ _ _)).unex
 obtain ⟨hl, H2⟩ := H1.unbig.unfac0
 have H2 : St w0 F0 m0 m (rawI e o.fr.sz A c l.length css.flatten :: (els o css l ++ (o.it cs x :: σ))) w := H2
 have hit : cs.length = o.fr.sz ∧ ∀ u ∈ cs, u.oneCell' = true := by
  obtain ⟨F, ⟨F1, F2, h1, _⟩, _⟩ := H.sep
  exact ⟨o.len h1, o.one h1⟩
 obtain ⟨F, ⟨ho1, hF⟩, h5, h6⟩ := H2.upd 0 rfl
 subst hm
 have hlx : (l ++ [x]).length = l.length + 1 := by simp
 refine appR d t e o.fr.sz by_ z ty 0 A X l.length c 1 c' css.flatten cs he hz hsz ho ho1 hX (by rw [hit.1]; omega) hit.2 ?_ hby (Nat.zero_le _) ?_
 ·rw [List.length_singleton] at hb
  exact Nat.le_trans (Nat.mul_le_mul hb hby2) (by decide)
 ·intro A' c1 w1 hown hkp hblk hc1 hz1
  have H3 := h6 w1 (rawI e o.fr.sz A' c1 (l.length + 1) (css.flatten ++ cs)) (fun k => (Value.slice A' (l.length + 1) c1).ownBlock = some k) (hkp.mono (fun k _ e => (hF k).2 e.symm)) ⟨hown, fun _ => Iff.rfl⟩ (fun k hk => (hblk).elim (fun e => .inl ((hF k).2 (by rw [← e]; exact hk))) (fun e => .inr (by rw [e] at hk; cases hk; exact Nat.le_refl _)))
  rw [← hlx]
  refine hk A' c1 w1 (St.exi (css ++ [cs]) (St.big _ (St.fac0 (by simp; omega) ?_)))
  have e3 : els o (css ++ [cs]) (l ++ [x]) = els o css l ++ [o.it cs x] := by rw [els_app o hl]; rfl
  rw [e3, hlx, show (css ++ [cs]).flatten = css.flatten ++ cs by simp]
  have H3 : St w0 F0 m0 m (rawI e o.fr.sz A' c1 (l.length + 1) (css.flatten ++ cs) :: (els o css l ++ (o.it cs x :: σ))) w1 := H3
  refine H3.perm (List.Perm.cons _ (?_ : List.Perm _ ((els o css l ++ [o.it cs x]) ++ σ)))
  rw [List.append_assoc]
  exact List.Perm.refl _
theorem rowI_fix {α : Type} {r : Rep α} {t : TypeId} {A : Option Addr} {c : Nat} {l : List α} {F : Nat → Prop} {m1 : Mem} (h : (rowI r t A c l).P m w F) (hs : Sub m m1) (hm : ∀ k, F k → m1 k = w.heap[k]?) : SlI r m1 A c l := by
 obtain ⟨⟨xs, h1, ho⟩, hF⟩ := h
 have hc := own_cap ho
 refine ⟨hc.1, hc.2, xs, h1.mono hs, ?_⟩
 intro j u hj
 obtain ⟨ad, e, _, _, hcell⟩ := Cs.of_own ho j u hj
 refine ⟨ad, e, ?_⟩
 subst e
 rcases ho.2 with ⟨hv, h0⟩ | ⟨g, cap, cur, hv, hb, hg, _⟩
 ·cases hv
 ·cases hv
  have := hm g ((hF g).2 rfl)
  rw [hg] at this
  have hcell : w.cell? ((⟨g, 0, none⟩ : Addr).add j) = some u := hcell
  rw [Addr.add_lit] at hcell ⊢
  simp only [World.cell?, hg] at hcell
  simp only [mc, this]
  exact hcell
theorem rowO_fix {α : Type} {o : ORep α} {t : TypeId} {A : Option Addr} {c : Nat} {l : List α} {F : Nat → Prop} {m1 : Mem} (h : (rowO o t A c l).P m w F) (hs : Sub m m1) (hm : ∀ k, F k → m1 k = w.heap[k]?) : SlI o.fr m1 A c l := by
 obtain ⟨css, F1, F2, ⟨hl, _⟩, ⟨F3, F4, ⟨ho, hF⟩, he, _, h4⟩, _, h6⟩ := h
 have hm4 : ∀ k, F4 k → m1 k = w.heap[k]? := fun k hk => hm k ((h6 k).2 (.inr ((h4 k).2 (.inr hk))))
 have hm3 : ∀ k, F3 k → m1 k = w.heap[k]? := fun k hk => hm k ((h6 k).2 (.inr ((h4 k).2 (.inl hk))))
 have hc := own_cap ho
 have rows : ∀ (css : List (List Value)) (l : List α) (G : Nat → Prop), css.length = l.length → Sep m w (els o css l) G → (∀ k, G k → m1 k = w.heap[k]?) → Rows o.fr m1 css.flatten l := by
  intro css
  induction css with
  | nil =>
   intro l G h _ _
   cases l with
   | nil => rfl
   | cons => simp at h
  | cons cs css ih =>
   intro l G h hsep hG
   cases l with
   | nil => simp at h
   | cons x l =>
    obtain ⟨G1, G2, g1, g2, _, g4⟩ := hsep
    exact ⟨cs, css.flatten, by simp, o.fix g1 hs (fun k hk => hG k ((g4 k).2 (.inl hk))), ih l G2 (by simpa using h) g2 (fun k hk => hG k ((g4 k).2 (.inr hk)))⟩
 refine ⟨hc.1, hc.2, _, rows css l F4 hl he hm4, ?_⟩
 intro j u hj
 obtain ⟨ad, e, _, _, hcell⟩ := Cs.of_own ho j u hj
 refine ⟨ad, e, ?_⟩
 subst e
 rcases ho.2 with ⟨hv, h0⟩ | ⟨g, cap, cur, hv, hb, hg, _⟩
 ·cases hv
 ·cases hv
  have := hm3 g ((hF g).2 rfl)
  rw [hg] at this
  have hcell : w.cell? ((⟨g, 0, none⟩ : Addr).add j) = some u := hcell
  rw [Addr.add_lit] at hcell ⊢
  simp only [World.cell?, hg] at hcell
  simp only [mc, this]
  exact hcell
theorem St.fixO (H : St w0 F0 m0 m σ w) {α : Type} {o : ORep α} (n : Nat) {A : Option Addr} {c : Nat} {l : List α} {t : TypeId} (hn : σ[n]? = some (rowO o t A c l)) : ∃ m1, Sub m m1 ∧ SlI o.fr m1 A c l ∧ St w0 F0 m0 m1 (σ.eraseIdx n) w := by
 obtain ⟨F, m1, h1, h2, h3, h4⟩ := (H.pull n hn).fix0
 exact ⟨m1, h2, rowO_fix h1 h2 h3, h4⟩
end
end Go.Proofs.YtkleajhiihbefaaGreatDoor.K
set_option linter.unusedVariables false
set_option linter.unusedSimpArgs false
set_option linter.unusedSectionVars false
namespace Go.Proofs.YtkleajhiihbefaaGreatDoor.K.E
open Go Go.RowKit
structure Deep (α β : Type) (r : Rep α) (rk : Rep β) (off : Nat) where
 getk : α → List β
 setk : α → List β → α
 gs : ∀ x l, getk (setk x l) = l
 ss : ∀ x l l', setk (setk x l) l' = setk x l'
 sg : ∀ x, setk x (getk x) = x
 lt : off < r.sz
 fill : ∀ {m : Mem} {cs : List Value} {x : α} {A : Option Addr} {c : Nat}, r.im m (cs.set off (.slice none 0 0)) (setk x []) → cs[off]? = some (.slice A (getk x).length c) → SlI rk m A c (getk x) → r.im m cs x
 empt : ∀ {m : Mem} {cs : List Value} {x : α}, r.im m cs x → r.im m (cs.set off (.slice none 0 0)) (setk x [])
section
variable {α β : Type} {r : Rep α} {rk : Rep β} {off : Nat}
def But (D : Deep α β r rk off) (m : Mem) (cs : List Value) (x : α) : Prop := r.im m (cs.set off (.slice none 0 0)) (D.setk x [])
theorem But.mono {D : Deep α β r rk off} {m m' : Mem} {cs : List Value} {x : α} (h : But D m cs x) (hs : Sub m m') : But D m' cs x := r.mono hs h
theorem But.len {D : Deep α β r rk off} {m : Mem} {cs : List Value} {x : α} (h : But D m cs x) : cs.length = r.sz := by
 have := r.len h
 rwa [List.length_set] at this
theorem But.one {D : Deep α β r rk off} {m : Mem} {cs : List Value} {x : α} (h : But D m cs x) {v : Value} (hv : cs[off]? = some v) (ho : v.oneCell' = true) : ∀ u ∈ cs, u.oneCell' = true := by
 intro u hu
 obtain ⟨j, hj, rfl⟩ := List.mem_iff_getElem.1 hu
 by_cases e : off = j
 ·subst e
  rw [List.getElem?_eq_getElem hj] at hv
  cases hv
  exact ho
 ·refine r.one h _ ?_
  rw [List.mem_iff_getElem]
  exact ⟨j, by rw [List.length_set]; exact hj, by rw [List.getElem_set_ne e]⟩
theorem But.set {D : Deep α β r rk off} {m : Mem} {cs : List Value} {x : α} {l : List β} {v : Value} (h : But D m cs x) : But D m (cs.set off v) (D.setk x l) := by
 unfold But at h ⊢
 rw [List.set_set, D.ss]
 exact h
def oD (D : Deep α β r rk off) (tk : TypeId) : ORep α where
 fr := r
 it cs x := {
  P := fun m w F => ∃ A c, cs[off]? = some (.slice A (D.getk x).length c) ∧ But D m cs x ∧ (rowI rk tk A c (D.getk x)).P m w F
  loc := fun ⟨A, c, h1, h2, h3⟩ hk => ⟨A, c, h1, h2, (rowI rk tk A c (D.getk x)).loc h3 hk⟩
  mono := fun hs ⟨A, c, h1, h2, h3⟩ => ⟨A, c, h1, h2.mono hs, (rowI rk tk A c (D.getk x)).mono hs h3⟩
  dom := fun ⟨A, c, h1, h2, h3⟩ => (rowI rk tk A c (D.getk x)).dom h3 }
 len := fun ⟨A, c, h1, h2, h3⟩ => h2.len
 one := fun ⟨A, c, h1, h2, h3⟩ => h2.one h1 rfl
 fix := fun ⟨A, c, h1, h2, h3⟩ hs hm => D.fill (h2.mono hs) h1 (rowI_fix h3 hs hm)
def deepI (D : Deep α β r rk off) (tk t : TypeId) (l : List α) (v : Value) : Item where
 P m w F := ∃ A c, v = .slice A l.length c ∧ (rowO (oD D tk) t A c l).P m w F
 loc := fun ⟨A, c, h1, h2⟩ hk => ⟨A, c, h1, (rowO (oD D tk) t A c l).loc h2 hk⟩
 mono := fun hs ⟨A, c, h1, h2⟩ => ⟨A, c, h1, (rowO (oD D tk) t A c l).mono hs h2⟩
 dom := fun ⟨A, c, h1, h2⟩ => (rowO (oD D tk) t A c l).dom h2
theorem deepI_nil (D : Deep α β r rk off) (tk t : TypeId) {m : Mem} {w : World} : (deepI D tk t [] (.slice none 0 0)).P m w (fun _ => False) :=
 ⟨none, 0, rfl, [], fun _ => False, fun _ => False, ⟨rfl, fun _ e => e⟩, ⟨fun _ => False, fun _ => False, ⟨World.ownsRow_nil _ _ _ _, fun k => ⟨False.elim, fun e => by cases e⟩⟩, fun _ e => e, fun _ e => e.elim, fun k => ⟨False.elim, fun e => e.elim id id⟩⟩, fun _ e => e.elim, fun k => ⟨False.elim, fun e => e.elim id id⟩⟩
def holeI (D : Deep α β r rk off) (tk t : TypeId) (q : List α × Int × α) (v u : Value) : Item where
 P m w F := ∃ A c cs, (v = .slice A q.1.length c ∧ q.1[q.2.1.toNat]? = some q.2.2 ∧ cs[off]? = some u ∧ u.oneCell' = true) ∧ But D m cs q.2.2 ∧ (holeO (oD D tk) t A c q.1 q.2.1.toNat cs).P m w F
 loc := fun ⟨A, c, cs, h1, h2, h3⟩ hk => ⟨A, c, cs, h1, h2, (holeO (oD D tk) t A c q.1 q.2.1.toNat cs).loc h3 hk⟩
 mono := fun hs ⟨A, c, cs, h1, h2, h3⟩ => ⟨A, c, cs, h1, h2.mono hs, (holeO (oD D tk) t A c q.1 q.2.1.toNat cs).mono hs h3⟩
 dom := fun ⟨A, c, cs, h1, h2, h3⟩ => (holeO (oD D tk) t A c q.1 q.2.1.toNat cs).dom h3
end
section
variable {κ β : Type} [BEq κ]
def VRep (r : Rep β) (g : Bool) (m : Mem) (u : Value) (x : β) : Prop := match g with
 | true => ∃ cs : List Value, r.im m cs x ∧ u = .agg cs.toArray
 | false => r.im m [u] x
theorem VRep.mono {r : Rep β} {g : Bool} {m m' : Mem} {u : Value} {x : β} (hs : Sub m m') (h : VRep r g m u x) : VRep r g m' u x := by
 cases g with
 | true => obtain ⟨cs, h1, h2⟩ := h; exact ⟨cs, r.mono hs h1, h2⟩
 | false => exact r.mono hs h
def MVal (r : Rep β) (g : Bool) (wf : κ → Prop) (m : Mem) : List (κ × Value) → List (κ × β) → Prop
 | [], l => l = []
 | (k, u) :: lv, l => ∃ x l', l = (k, x) :: l' ∧ wf k ∧ VRep r g m u x ∧ MVal r g wf m lv l'
section
variable {r : Rep β} {g : Bool} {wf : κ → Prop} {m m' : Mem}
omit [BEq κ] in
theorem MVal.mono (hs : Sub m m') : ∀ {lv : List (κ × Value)} {l : List (κ × β)}, MVal r g wf m lv l → MVal r g wf m' lv l
 | [], _, h => h
 | (k, u) :: lv, _, ⟨x, l', h1, h2, h3, h4⟩ => ⟨x, l', h1, h2, h3.mono hs, MVal.mono hs h4⟩
theorem MVal.get (k : κ) : ∀ {lv : List (κ × Value)} {l : List (κ × β)}, MVal r g wf m lv l → (mget lv k = none ∧ mget l k = none) ∨ ∃ u x, mget lv k = some u ∧ mget l k = some x ∧ VRep r g m u x
 | [], _, h => by rw [show _ = [] from h]; exact .inl ⟨rfl, rfl⟩
 | (k', u) :: lv, _, ⟨x, l', h1, h2, h3, h4⟩ => by
  subst h1
  have ih := h4.get k
  unfold mget at ih ⊢
  rw [List.find?_cons, List.find?_cons]
  cases hb : (k == k')
  ·simpa [hb] using ih
  ·exact .inr ⟨u, x, by simp [hb], by simp [hb], h3⟩
theorem MVal.put {k : κ} (hk : wf k) {u : Value} {x : β} (hv : VRep r g m u x) : ∀ {lv : List (κ × Value)} {l : List (κ × β)}, MVal r g wf m lv l → MVal r g wf m (mput lv k u) (mput l k x)
 | [], _, h => by rw [show _ = [] from h]; exact ⟨x, [], rfl, hk, hv, rfl⟩
 | (k', u') :: lv, _, ⟨x', l', h1, h2, h3, h4⟩ => by
  subst h1
  unfold mput
  cases hb : (k == k')
  ·simp only [hb, Bool.false_eq_true, if_false]
   exact ⟨x', _, rfl, h2, h3, h4.put hk hv⟩
  ·simp only [hb, if_true]
   exact ⟨x, l', rfl, hk, hv, h4⟩
end
def mapG (K : Key κ) (wf : κ → Prop) (r : Rep β) (g : Bool) (l : List (κ × β)) (v : Value) : Item where
 P m w F := ∃ b lv, v = .map (some b) ∧ MVal r g wf m lv l ∧ (mapI K id b lv).P m w F
 loc := fun ⟨b, lv, h1, h2, h3⟩ hk => ⟨b, lv, h1, h2, (mapI K id b lv).loc h3 hk⟩
 mono := fun hs ⟨b, lv, h1, h2, h3⟩ => ⟨b, lv, h1, h2.mono hs, (mapI K id b lv).mono hs h3⟩
 dom := fun ⟨b, lv, h1, h2, h3⟩ => (mapI K id b lv).dom h3
def mapF (K : Key κ) (wf : κ → Prop) (r : Rep β) (g : Bool) (m : Mem) (l : List (κ × β)) (v : Value) : Prop :=
 ∃ (b : Nat) (es : Array MapEntry) (clock : Nat) (lv : List (κ × Value)), v = .map (some b) ∧ m b = some (.map es clock) ∧ (es.toList.map (fun e => (e.key, e.val)) = lv.map (fun x => (K.fk x.1, id x.2)) ∧ Born es.toList clock) ∧ MVal r g wf m lv l
def rMap (K : Key κ) (wf : κ → Prop) (r : Rep β) (g : Bool) : Rep (List (κ × β)) where
 sz := 1
 im m cs x := ∃ v, cs = [v] ∧ mapF K wf r g m x v
 wf _ := True
 mono := fun hs ⟨v, h1, b, es, c, lv, h2, h3, h4, h5⟩ => ⟨v, h1, b, es, c, lv, h2, hs _ _ h3, h4, h5.mono hs⟩
 len := fun ⟨v, h1, _⟩ => by rw [h1]; rfl
 one := fun ⟨v, h1, b, es, c, lv, h2, _⟩ => by subst h1; subst h2; intro u hu; simp only [List.mem_singleton] at hu; subst hu; rfl
end
end Go.Proofs.YtkleajhiihbefaaGreatDoor.K.E
set_option linter.unusedVariables false
set_option linter.unusedSimpArgs false
set_option linter.unusedSectionVars false
namespace Go.Proofs.YtkleajhiihbefaaGreatDoor.K.E
open Go Go.RowKit
inductive AV (T : Nat → Type) : Type where
 | i64 (x : Int)
 | u8 (x : UInt8)
 | u32 (x : UInt32)
 | u16 (x : UInt16)
 | u64 (x : UInt64)
 | bool (x : Bool)
 | str (l : List UInt8)
 | sl (n : Nat) (l : List (T n))
 | nils
 | nilp
 | one (n : Nat) (x : T n)
 | con (n : Nat) (l : List (T n))
 | row (id : Nat)
 | ptr (id off : Nat)
 | elt (id : Nat) (i : Int) (n off : Nat)
 | cells (off : Nat) (l : List (AV T))
 | glob (g : Nat)
 | agg (l : List (AV T))
 | tup (l : List (AV T))
 | fn (f : FuncId) (l c : List (AV T))
 | lit (v : Value)
 | any
structure DP (T : Nat → Type) (rep : ∀ n, Rep (T n)) (k : Nat) where
 n : Nat
 nk : Nat
 t : Nat
 tk : Nat
 off : Nat
 hk : Nat
 D : Deep (T n) (T nk) (rep n) (rep nk) off
 to : T k → List (T n)
 of : List (T n) → T k
 toh : T hk → List (T n) × Int × T n
 ofh : List (T n) × Int × T n → T hk
structure MP (T : Nat → Type) (rep : ∀ n, Rep (T n)) (k : Nat) where
 α : Type
 b : BEq α
 K : @Key α b
 wf : α → Prop
 av : α → AV T
 va : AV T → Option α
 ktd : TypeDesc → Bool
 n : Nat
 g : Bool
 to : T k → List (α × T n)
 of : List (α × T n) → T k
instance {T : Nat → Type} {rep : ∀ n, Rep (T n)} {k : Nat} (d : MP T rep k) : BEq d.α := d.b
structure Tab where
 T : Nat → Type
 rep : ∀ n, Rep (T n)
 ex : ∀ n, T n → List (AV T)
 im : ∀ n, List (AV T) → Option (T n)
 code : TypeId → Option Nat
 gl : Nat → Option ((n : Nat) × List (T n))
 u8c : Nat
 tou8 : ∀ n, List (T n) → Option (List UInt8)
 ofu8 : List UInt8 → List (T u8c)
 gi : ∀ n, T n → Value → Value → Item
 dp : ∀ k, Option (DP T rep k)
 hd : Nat → Option Nat
 mp : ∀ k, Option (MP T rep k)
 gcode : TypeId → Option Nat
mutual
def R (tb : Tab) (η : List Value) (m : Mem) : AV tb.T → Value → Prop
 | .i64 x, v => v = .int .i64 x
 | .u8 x, v => v = .int .u8 (x.toNat : Int)
 | .u32 x, v => v = .int .u32 (x.toNat : Int)
 | .u16 x, v => v = .int .u16 (x.toNat : Int)
 | .u64 x, v => v = .int .u64 (x.toNat : Int)
 | .bool x, v => v = .bool x
 | .str l, v => v = .string ⟨l.toArray⟩ ∧ l.length ≤ 9223372036854775807
 | .sl n l, v => ∃ A c, v = .slice A l.length c ∧ SlI (tb.rep n) m A c l
 | .nils, v => v = .slice none 0 0
 | .nilp, v => v = .pointer none
 | .one n x, v => (tb.rep n).im m [v] x
 | .con n l, v => ∃ xs : List Value, v = .func (.func (tb.rep n).sz) xs.toArray #[.int .i64 (l.length : Int)] ∧ Rows (tb.rep n) m xs l
 | .row id, v => η[id]? = some v ∧ v.oneCell' = true
 | .ptr id off, v => ∃ g, η[id]? = some (.pointer (some ⟨g, 0, none⟩)) ∧ v = .pointer (some ⟨g, off, none⟩)
 | .elt id i n off, v => ∃ (ad : Addr) (len c : Nat), η[id]? = some (.slice (some ad) len c) ∧ 0 ≤ i ∧ i < len ∧ v = .pointer (some ((ad.add (i.toNat * (tb.rep n).sz)).add off))
 | .cells off l, v => ∃ (A : Addr) (cs : List Value), v = .pointer (some (A.add off)) ∧ CsM m (some A) cs ∧ RL tb η m l cs
 | .glob g, v => v = .pointer (some ⟨g, 0, none⟩)
 | .agg l, v => ∃ cs : List Value, v = .agg cs.toArray ∧ RL tb η m l cs
 | .tup l, v => ∃ cs : List Value, v = .tuple cs.toArray ∧ RL tb η m l cs
 | .fn f l c, v => ∃ xs ys : List Value, v = .func (.func f) xs.toArray ys.toArray ∧ RL tb η m l xs ∧ RL tb η m c ys
 | .lit u, v => v = u
 | .any, _ => True
def RL (tb : Tab) (η : List Value) (m : Mem) : List (AV tb.T) → List Value → Prop
 | [], vs => vs = []
 | a :: l, vs => ∃ v r, vs = v :: r ∧ R tb η m a v ∧ RL tb η m l r
end
def Le (η η' : List Value) : Prop := ∀ (i : Nat) (v : Value), η[i]? = some v → η'[i]? = some v
theorem Le.refl (η : List Value) : Le η η := fun _ _ h => h
theorem Le.trans {a b c : List Value} (h : Le a b) (h' : Le b c) : Le a c := fun i v e => h' i v (h i v e)
theorem Le.app (η η' : List Value) : Le η (η ++ η') := fun i v h => by
 rw [List.getElem?_append_left (List.getElem?_eq_some_iff.1 h).1]; exact h
section
variable {tb : Tab}
mutual
theorem R.mono {η η' : List Value} {m m' : Mem} (hη : Le η η') (hm : Sub m m') : ∀ (a : AV tb.T) {v : Value}, R tb η m a v → R tb η' m' a v
 | .i64 _, _, h => h
 | .u8 _, _, h => h
 | .u32 _, _, h => h
 | .u16 _, _, h => h
 | .u64 _, _, h => h
 | .bool _, _, h => h
 | .str _, _, h => h
 | .sl _ _, _, ⟨A, c, h1, h2⟩ => ⟨A, c, h1, h2.mono hm⟩
 | .nils, _, h => h
 | .nilp, _, h => h
 | .one n _, _, h => (tb.rep n).mono hm h
 | .con _ _, _, ⟨xs, h1, h2⟩ => ⟨xs, h1, h2.mono hm⟩
 | .row _, _, ⟨h1, h2⟩ => ⟨hη _ _ h1, h2⟩
 | .ptr _ _, _, ⟨g, h1, h2⟩ => ⟨g, hη _ _ h1, h2⟩
 | .elt _ _ _ _, _, ⟨ad, len, c, h1, h2⟩ => ⟨ad, len, c, hη _ _ h1, h2⟩
 | .cells _ l, _, ⟨A, cs, h1, h2, h3⟩ => ⟨A, cs, h1, h2.mono hm, RL.mono hη hm l h3⟩
 | .glob _, _, h => h
 | .agg l, _, ⟨cs, h1, h3⟩ => ⟨cs, h1, RL.mono hη hm l h3⟩
 | .tup l, _, ⟨cs, h1, h3⟩ => ⟨cs, h1, RL.mono hη hm l h3⟩
 | .fn _ l c, _, ⟨xs, ys, h1, h3, h4⟩ => ⟨xs, ys, h1, RL.mono hη hm l h3, RL.mono hη hm c h4⟩
 | .lit _, _, h => h
 | .any, _, _ => trivial
theorem RL.mono {η η' : List Value} {m m' : Mem} (hη : Le η η') (hm : Sub m m') : ∀ (l : List (AV tb.T)) {vs : List Value}, RL tb η m l vs → RL tb η' m' l vs
 | [], _, h => h
 | a :: l, _, ⟨v, r, h1, h2, h3⟩ => ⟨v, r, h1, R.mono hη hm a h2, RL.mono hη hm l h3⟩
end
theorem take_get {η η0 : List Value} {i : Nat} {v v0 : Value} (h0 : η0[i]? = some v0) (h : η[i]? = some v) : (η.take η0.length)[i]? = some v := by
 rw [List.getElem?_take, if_pos (List.getElem?_eq_some_iff.1 h0).1]; exact h
mutual
theorem R.cut {η η0 : List Value} {m m0 : Mem} : ∀ (a : AV tb.T) {v v0 : Value}, R tb η0 m0 a v0 → R tb η m a v → R tb (η.take η0.length) m a v
 | .i64 _, _, _, _, h => h
 | .u8 _, _, _, _, h => h
 | .u32 _, _, _, _, h => h
 | .u16 _, _, _, _, h => h
 | .u64 _, _, _, _, h => h
 | .bool _, _, _, _, h => h
 | .str _, _, _, _, h => h
 | .sl _ _, _, _, _, h => h
 | .nils, _, _, _, h => h
 | .nilp, _, _, _, h => h
 | .one _ _, _, _, _, h => h
 | .con _ _, _, _, _, h => h
 | .row _, _, _, ⟨h1, _⟩, ⟨k1, k2⟩ => ⟨take_get h1 k1, k2⟩
 | .ptr _ _, _, _, ⟨g, h1, _⟩, ⟨g', k1, k2⟩ => ⟨g', take_get h1 k1, k2⟩
 | .elt _ _ _ _, _, _, ⟨_, _, _, h1, _⟩, ⟨ad, len, c, k1, k2⟩ => ⟨ad, len, c, take_get h1 k1, k2⟩
 | .cells _ l, _, _, ⟨_, _, _, _, h3⟩, ⟨A, cs, k1, k2, k3⟩ => ⟨A, cs, k1, k2, RL.cut l h3 k3⟩
 | .glob _, _, _, _, h => h
 | .agg l, _, _, ⟨_, _, h3⟩, ⟨cs, k1, k3⟩ => ⟨cs, k1, RL.cut l h3 k3⟩
 | .tup l, _, _, ⟨_, _, h3⟩, ⟨cs, k1, k3⟩ => ⟨cs, k1, RL.cut l h3 k3⟩
 | .fn _ l c, _, _, ⟨_, _, _, h3, h4⟩, ⟨xs, ys, k1, k3, k4⟩ => ⟨xs, ys, k1, RL.cut l h3 k3, RL.cut c h4 k4⟩
 | .lit _, _, _, _, h => h
 | .any, _, _, _, _ => trivial
theorem RL.cut {η η0 : List Value} {m m0 : Mem} : ∀ (l : List (AV tb.T)) {vs vs0 : List Value}, RL tb η0 m0 l vs0 → RL tb η m l vs → RL tb (η.take η0.length) m l vs
 | [], _, _, _, h => h
 | a :: l, _, _, ⟨_, _, _, h2, h3⟩, ⟨v, r, k1, k2, k3⟩ => ⟨v, r, k1, R.cut a h2 k2, RL.cut l h3 k3⟩
end
theorem RL.app {η : List Value} {m : Mem} : ∀ {l l' : List (AV tb.T)} {vs vs' : List Value}, RL tb η m l vs → RL tb η m l' vs' → RL tb η m (l ++ l') (vs ++ vs')
 | [], l', vs, vs', h, h' => by rw [show vs = [] from h]; exact h'
 | a :: l, l', vs, vs', ⟨v, r, h1, h2, h3⟩, h' => ⟨v, r ++ vs', by rw [h1]; rfl, h2, h3.app h'⟩
theorem RL.inv {η : List Value} {m : Mem} : ∀ {l l' : List (AV tb.T)} {vs : List Value}, RL tb η m (l ++ l') vs → ∃ v1 v2, vs = v1 ++ v2 ∧ RL tb η m l v1 ∧ RL tb η m l' v2
 | [], l', vs, h => ⟨[], vs, rfl, rfl, h⟩
 | a :: l, l', vs, ⟨v, r, h1, h2, h3⟩ => by
  obtain ⟨v1, v2, rfl, h4, h5⟩ := RL.inv h3
  exact ⟨v :: v1, v2, by rw [h1]; rfl, ⟨v, v1, rfl, h2, h4⟩, h5⟩
theorem RL.len {η : List Value} {m : Mem} : ∀ {l : List (AV tb.T)} {vs : List Value}, RL tb η m l vs → vs.length = l.length
 | [], vs, h => by rw [show vs = [] from h]; rfl
 | a :: l, vs, ⟨v, r, h1, h2, h3⟩ => by rw [h1, List.length_cons, List.length_cons, h3.len]
theorem RL.get {η : List Value} {m : Mem} : ∀ {l : List (AV tb.T)} {vs : List Value} {i : Nat} {a : AV tb.T}, RL tb η m l vs → l[i]? = some a → ∃ v, vs[i]? = some v ∧ R tb η m a v
 | [], vs, i, a, h, hi => by simp at hi
 | b :: l, vs, 0, a, ⟨v, r, h1, h2, h3⟩, hi => by
  simp at hi; subst hi; exact ⟨v, by rw [h1]; rfl, h2⟩
 | b :: l, vs, i + 1, a, ⟨v, r, h1, h2, h3⟩, hi => by
  obtain ⟨u, h4, h5⟩ := h3.get (by simpa using hi)
  exact ⟨u, by rw [h1]; simpa using h4, h5⟩
theorem RL.take {η : List Value} {m : Mem} : ∀ {l : List (AV tb.T)} {vs : List Value} (n : Nat), RL tb η m l vs → RL tb η m (l.take n) (vs.take n)
 | _, _, 0, h => by simp [RL]
 | [], vs, n + 1, h => by rw [show vs = [] from h]; rfl
 | b :: l, vs, n + 1, ⟨v, r, h1, h2, h3⟩ => ⟨v, r.take n, by rw [h1]; rfl, h2, h3.take n⟩
theorem RL.drop {η : List Value} {m : Mem} : ∀ {l : List (AV tb.T)} {vs : List Value} (n : Nat), RL tb η m l vs → RL tb η m (l.drop n) (vs.drop n)
 | _, _, 0, h => by simpa using h
 | [], vs, n + 1, h => by rw [show vs = [] from h]; rfl
 | b :: l, vs, n + 1, ⟨v, r, h1, h2, h3⟩ => by rw [h1]; exact h3.drop n
theorem RL.set {η : List Value} {m : Mem} : ∀ {l : List (AV tb.T)} {vs : List Value} {i : Nat} {a : AV tb.T} {v : Value}, RL tb η m l vs → R tb η m a v → RL tb η m (l.set i a) (vs.set i v)
 | [], vs, i, a, v, h, _ => by rw [show vs = [] from h]; rfl
 | b :: l, vs, 0, a, v, ⟨u, r, h1, h2, h3⟩, hv => ⟨v, r, by rw [h1]; rfl, hv, h3⟩
 | b :: l, vs, i + 1, a, v, ⟨u, r, h1, h2, h3⟩, hv => ⟨u, r.set i v, by rw [h1]; rfl, h2, h3.set hv⟩
theorem RL.one {η : List Value} {m : Mem} {a : AV tb.T} {vs : List Value} (h : RL tb η m [a] vs) : ∃ v, vs = [v] ∧ R tb η m a v := by
 obtain ⟨v, r, h1, h2, h3⟩ := h
 exact ⟨v, by rw [h1, show r = [] from h3], h2⟩
theorem RL.mk1 {η : List Value} {m : Mem} {a : AV tb.T} {v : Value} (h : R tb η m a v) : RL tb η m [a] [v] := ⟨v, [], rfl, h, rfl⟩
end
def oneA {T : Nat → Type} : AV T → Bool
 | .agg _ => false
 | .tup _ => false
 | .any => false
 | .lit v => v.oneCell'
 | _ => true
theorem oneA_ok {tb : Tab} {η : List Value} {m : Mem} {a : AV tb.T} {v : Value} (h : R tb η m a v) (ho : oneA a = true) : v.oneCell' = true := by
 cases a <;> simp only [R] at h <;> simp only [oneA, Bool.false_eq_true] at ho
 case str => rw [h.1]; rfl
 case sl => obtain ⟨A, c, rfl, _⟩ := h; rfl
 case row => exact h.2
 case ptr => obtain ⟨g, _, rfl⟩ := h; rfl
 case elt => obtain ⟨_, _, _, _, _, _, rfl⟩ := h; rfl
 case cells => obtain ⟨A, cs, rfl, _⟩ := h; rfl
 case fn => obtain ⟨xs, ys, rfl, _⟩ := h; rfl
 case lit => rw [h]; exact ho
 case one n x => exact (tb.rep n).one h v (List.mem_singleton.2 rfl)
 case con => obtain ⟨xs, rfl, _⟩ := h; rfl
 all_goals (subst h; rfl)
theorem oneL {tb : Tab} {η : List Value} {m : Mem} : ∀ {l : List (AV tb.T)} {vs : List Value}, RL tb η m l vs → l.all oneA = true → vs.all (·.oneCell') = true
 | [], vs, h, _ => by rw [show vs = [] from h]; rfl
 | a :: l, vs, ⟨v, r, h1, h2, h3⟩, ho => by
  rw [List.all_cons, Bool.and_eq_true] at ho
  rw [h1, List.all_cons, oneA_ok h2 ho.1, oneL h3 ho.2]
  rfl
def lk {α : Type} : List (Nat × Nat × α) → Nat → Option (Nat × α)
 | [], _ => none
 | (i, st, v) :: r, t => cond (Nat.beq i t) (some (st, v)) (lk r t)
def del {α : Type} : List (Nat × Nat × α) → Nat → List (Nat × Nat × α)
 | [], _ => []
 | (i, st, v) :: r, t => cond (Nat.beq i t) (del r t) ((i, st, v) :: del r t)
def sto {α : Type} (l : List (Nat × Nat × α)) (t st : Nat) (v : α) : List (Nat × Nat × α) := (t, st, v) :: del l t
theorem beq_t {a b : Nat} (h : Nat.beq a b = true) : a = b := Nat.eq_of_beq_eq_true h
inductive DI (T : Nat → Type) : Type where
 | blk (t : TypeId) (c : List (AV T))
 | row (n t : Nat) (l : List (T n))
 | lit (t : TypeId) (k : Nat) (c : List (AV T))
 | kep (t : TypeId) (c : List (AV T)) (j : Nat)
 | gen (n : Nat) (x : T n) (j : Nat)
abbrev Sg (T : Nat → Type) := List (Nat × Nat × DI T)
def DI.item (tb : Tab) (η : List Value) (id : Nat) : DI tb.T → Item
 | .blk t c => {
  P := fun m w F => ∃ (g : Nat) (cs : List Value), η[id]? = some (.pointer (some ⟨g, 0, none⟩)) ∧ RL tb η m c cs ∧ (blkI g cs t).P m w F
  loc := fun ⟨g, cs, h1, h2, h3⟩ hk => ⟨g, cs, h1, h2, (blkI g cs t).loc h3 hk⟩
  mono := fun hs ⟨g, cs, h1, h2, h3⟩ => ⟨g, cs, h1, RL.mono (Le.refl _) hs c h2, (blkI g cs t).mono hs h3⟩
  dom := fun ⟨g, cs, h1, h2, h3⟩ => (blkI g cs t).dom h3 }
 | .row n t l => {
  P := fun m w F => ∃ (A : Option Addr) (c : Nat), η[id]? = some (.slice A l.length c) ∧ (rowI (tb.rep n) t A c l).P m w F
  loc := fun ⟨A, c, h1, h3⟩ hk => ⟨A, c, h1, (rowI (tb.rep n) t A c l).loc h3 hk⟩
  mono := fun hs ⟨A, c, h1, h3⟩ => ⟨A, c, h1, (rowI (tb.rep n) t A c l).mono hs h3⟩
  dom := fun ⟨A, c, h1, h3⟩ => (rowI (tb.rep n) t A c l).dom h3 }
 | .lit t k c => {
  P := fun m w F => ∃ (g : Nat) (cs : List Value), η[id]? = some (.slice (some ⟨g, 0, none⟩) k k) ∧ RL tb η m c cs ∧ (blkI g cs t).P m w F
  loc := fun ⟨g, cs, h1, h2, h3⟩ hk => ⟨g, cs, h1, h2, (blkI g cs t).loc h3 hk⟩
  mono := fun hs ⟨g, cs, h1, h2, h3⟩ => ⟨g, cs, h1, RL.mono (Le.refl _) hs c h2, (blkI g cs t).mono hs h3⟩
  dom := fun ⟨g, cs, h1, h2, h3⟩ => (blkI g cs t).dom h3 }
 | .kep t c j => {
  P := fun m w F => ∃ (g : Nat) (cs : List Value), (η[id]? = some (.pointer (some ⟨g, 0, none⟩)) ∧ η[j]? = some (.agg cs.toArray)) ∧ RL tb η m c cs ∧ (blkI g cs t).P m w F
  loc := fun ⟨g, cs, h1, h2, h3⟩ hk => ⟨g, cs, h1, h2, (blkI g cs t).loc h3 hk⟩
  mono := fun hs ⟨g, cs, h1, h2, h3⟩ => ⟨g, cs, h1, RL.mono (Le.refl _) hs c h2, (blkI g cs t).mono hs h3⟩
  dom := fun ⟨g, cs, h1, h2, h3⟩ => (blkI g cs t).dom h3 }
 | .gen n x j => {
  P := fun m w F => ∃ v u : Value, (η[id]? = some v ∧ η[j]? = some u) ∧ v.oneCell' = true ∧ (tb.gi n x v u).P m w F
  loc := fun ⟨v, u, h1, h2, h3⟩ hk => ⟨v, u, h1, h2, (tb.gi n x v u).loc h3 hk⟩
  mono := fun hs ⟨v, u, h1, h2, h3⟩ => ⟨v, u, h1, h2, (tb.gi n x v u).mono hs h3⟩
  dom := fun ⟨v, u, h1, h2, h3⟩ => (tb.gi n x v u).dom h3 }
def its (tb : Tab) (η : List Value) (σ : Sg tb.T) : List Item := σ.map fun e => e.2.2.item tb η e.1
section
variable {tb : Tab} {η η' : List Value} {m m' : Mem} {w : World}
theorem item_le (hη : Le η η') (id : Nat) (x : DI tb.T) {F : Nat → Prop} (h : (x.item tb η id).P m w F) : (x.item tb η' id).P m w F := by
 cases x with
 | blk t c => obtain ⟨g, cs, h1, h2, h3⟩ := h; exact ⟨g, cs, hη _ _ h1, RL.mono hη (Sub.refl _) c h2, h3⟩
 | row n t l => obtain ⟨A, c, h1, h3⟩ := h; exact ⟨A, c, hη _ _ h1, h3⟩
 | lit t k c => obtain ⟨g, cs, h1, h2, h3⟩ := h; exact ⟨g, cs, hη _ _ h1, RL.mono hη (Sub.refl _) c h2, h3⟩
 | kep t c j => obtain ⟨g, cs, ⟨h1, h4⟩, h2, h3⟩ := h; exact ⟨g, cs, ⟨hη _ _ h1, hη _ _ h4⟩, RL.mono hη (Sub.refl _) c h2, h3⟩
 | gen n x j => obtain ⟨v, u, ⟨h1, h4⟩, h2, h3⟩ := h; exact ⟨v, u, ⟨hη _ _ h1, hη _ _ h4⟩, h2, h3⟩
theorem its_le (hη : Le η η') : ∀ (σ : Sg tb.T) {F : Nat → Prop}, Sep m w (its tb η σ) F → Sep m w (its tb η' σ) F
 | [], _, h => h
 | (id, st, x) :: r, F, ⟨F1, F2, h1, h2, h3, h4⟩ => ⟨F1, F2, item_le hη id x h1, its_le hη r h2, h3, h4⟩
theorem its_app (σ τ : Sg tb.T) : its tb η (σ ++ τ) = its tb η σ ++ its tb η τ := by unfold its; exact List.map_append
theorem its_del : ∀ (σ : Sg tb.T) (id : Nat) {F : Nat → Prop}, Sep m w (its tb η σ) F → ∃ F', (∀ k, F' k → F k) ∧ Sep m w (its tb η (del σ id)) F'
 | [], _, F, h => ⟨F, fun _ e => e, h⟩
 | (i, st, x) :: r, id, F, ⟨F1, F2, h1, h2, h3, h4⟩ => by
  obtain ⟨F', k1, k2⟩ := its_del r id h2
  simp only [del]
  cases Nat.beq i id with
  | true => exact ⟨F', fun k e => (h4 k).2 (.inr (k1 k e)), k2⟩
  | false => exact ⟨fun k => F1 k ∨ F' k, fun k e => (h4 k).2 (e.elim .inl (fun e => .inr (k1 k e))), F1, F', h1, k2, fun k a b => h3 k a (k1 k b), fun k => Iff.rfl⟩
theorem Sep_lk : ∀ {σ : Sg tb.T} {id : Nat} {p : Nat × DI tb.T}, lk σ id = some p → ∀ {F : Nat → Prop}, Sep m w (its tb η σ) F → ∃ F1 F2, (p.2.item tb η id).P m w F1 ∧ Sep m w (its tb η (del σ id)) F2 ∧ (∀ k, F1 k → F2 k → False) ∧ ∀ k, F1 k ∨ F2 k → F k
 | [], _, _, h, _, _ => by cases h
 | (i, st, x) :: r, id, p, h, F, ⟨F1, F2, h1, h2, h3, h4⟩ => by
  simp only [lk] at h
  simp only [del]
  cases hb : Nat.beq i id with
  | true =>
   rw [hb] at h
   have := beq_t hb
   subst this
   cases h
   obtain ⟨F', k1, k2⟩ := its_del r i h2
   exact ⟨F1, F', h1, k2, fun k a b => h3 k a (k1 k b), fun k e => (h4 k).2 (e.elim .inl (fun e => .inr (k1 k e)))⟩
  | false =>
   rw [hb] at h
   obtain ⟨G1, G2, k1, k2, k3, k4⟩ := Sep_lk (σ := r) h h2
   exact ⟨G1, fun k => F1 k ∨ G2 k, k1, ⟨F1, G2, h1, k2, fun k a b => h3 k a (k4 k (.inr b)), fun k => Iff.rfl⟩, fun k a b => b.elim (fun b => h3 k b (k4 k (.inl a))) (k3 k a),
    fun k e => (h4 k).2 (e.elim (fun e => .inr (k4 k (.inl e))) (fun e => e.elim .inl (fun e => .inr (k4 k (.inr e)))))⟩
end
end Go.Proofs.YtkleajhiihbefaaGreatDoor.K.E
