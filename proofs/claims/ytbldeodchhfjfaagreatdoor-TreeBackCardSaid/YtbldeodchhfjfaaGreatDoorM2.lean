/- The operations over fixed and owned memory; the words of the printed functions. -/
import Derived.Test.YtbldeodchhfjfaaGreatDoorM1
set_option linter.unusedVariables false
set_option linter.unusedSimpArgs false
set_option linter.unusedSectionVars false
namespace Go.Proofs.YtbldeodchhfjfaaGreatDoor.K
open Go Go.RowKit Go.Op

/-! ### The words of the printed functions -/
def idx {α : Type} (l : List α) (i : Int) : Option α := if 0 ≤ i then l[i.toNat]? else none
def slc {α : Type} (l : List α) (a b : Int) : Option (List α) := if 0 ≤ a ∧ a ≤ b ∧ b ≤ l.length then some ((l.take b.toNat).drop a.toNat) else none
def app {α : Type} (l x : List α) : Option (List α) := if l.length + x.length ≤ 137438953472 then some (l ++ x) else none
def cat (l x : List UInt8) : Option (List UInt8) := if l.length + x.length ≤ 9223372036854775807 then some (l ++ x) else none
def upd {α : Type} (l : List α) (i : Int) (x : α) : Option (List α) := if 0 ≤ i ∧ i < l.length then some (l.set i.toNat x) else none
def mk {α : Type} (z : α) (n : Int) : Option (List α) := if 0 ≤ n ∧ n ≤ 137438953472 then some (List.replicate n.toNat z) else none
def chk (b : Bool) : Option Unit := cond b (some ()) none
def bnd {ρ σ : Type} (x : Option (Sum σ ρ)) (k : σ → Option ρ) : Option ρ := x.bind fun y => match y with
  | .inl s => k s
  | .inr r => some r

def shr8 (x : UInt8) (y : Int) : UInt8 := UInt8.ofNat (x.toNat / 2 ^ min y.toNat 8)
def shl8 (x : UInt8) (y : Int) : UInt8 := UInt8.ofInt ((x.toNat : Int) * 2 ^ min y.toNat 8)
def shr32 (x : UInt32) (y : Int) : UInt32 := UInt32.ofNat (x.toNat / 2 ^ min y.toNat 32)
def shl32 (x : UInt32) (y : Int) : UInt32 := UInt32.ofInt ((x.toNat : Int) * 2 ^ min y.toNat 32)
def shr64 (x : UInt64) (y : Int) : UInt64 := UInt64.ofNat (x.toNat / 2 ^ min y.toNat 64)
def shl64 (x : UInt64) (y : Int) : UInt64 := UInt64.ofInt ((x.toNat : Int) * 2 ^ min y.toNat 64)
def shrI (x y : Int) : Int := x / 2 ^ min y.toNat 64
def shlI (x y : Int) : Int := IntKind.i64.wrap (x * 2 ^ min y.toNat 64)

/-! loops -/
def iter {σ ρ : Type} (body : σ → Option (Sum σ ρ)) : Nat → σ → Option ρ
  | 0, _ => none
  | n + 1, s => match body s with
    | none => none
    | some (.inl s') => iter body n s'
    | some (.inr r) => some r
theorem iter_mono {σ ρ : Type} {body : σ → Option (Sum σ ρ)} : ∀ {n k : Nat} {s : σ} {r : ρ}, iter body n s = some r → iter body (n + k) s = some r
  | 0, k, s, r, h => by simp [iter] at h
  | n + 1, k, s, r, h => by
    rw [show n + 1 + k = (n + k) + 1 by omega]
    simp only [iter] at h ⊢
    cases hb : body s with
    | none => rw [hb] at h; exact h
    | some x =>
      rw [hb] at h
      cases x with
      | inl s' => exact iter_mono h
      | inr r' => exact h
open Classical in
noncomputable def loopO {σ ρ : Type} (body : σ → Option (Sum σ ρ)) (s : σ) : Option ρ :=
  if h : ∃ n r, iter body n s = some r then some (Classical.choose (Classical.choose_spec h)) else none
theorem loopO_iff {σ ρ : Type} {body : σ → Option (Sum σ ρ)} {s : σ} {r : ρ} : loopO body s = some r ↔ ∃ n, iter body n s = some r := by
  unfold loopO
  constructor
  · intro h
    split at h
    · rename_i hx
      have := Classical.choose_spec (Classical.choose_spec hx)
      cases h
      exact ⟨_, this⟩
    · cases h
  · rintro ⟨n, h⟩
    have hx : ∃ n r, iter body n s = some r := ⟨n, r, h⟩
    rw [dif_pos hx]
    have h2 := Classical.choose_spec (Classical.choose_spec hx)
    have h3 := iter_mono (k := Classical.choose hx) h
    have h4 := iter_mono (k := n) h2
    rw [Nat.add_comm, h4] at h3
    exact h3
/-- A loop, unrolled once. -/
theorem loopO_eq {σ ρ : Type} (body : σ → Option (Sum σ ρ)) (s : σ) : loopO body s = match body s with
    | none => none
    | some (.inl s') => loopO body s'
    | some (.inr r) => some r := by
  apply Option.ext
  intro r
  rw [loopO_iff]
  cases hb : body s with
  | none =>
    simp only [reduceCtorEq, iff_false, not_exists]
    intro n
    cases n <;> simp [iter, hb]
  | some x =>
    cases x with
    | inl s' =>
      simp only [loopO_iff]
      constructor
      · rintro ⟨n, h⟩
        cases n with
        | zero => simp [iter] at h
        | succ n => simp only [iter, hb] at h; exact ⟨n, h⟩
      · rintro ⟨n, h⟩
        exact ⟨n + 1, by simp only [iter, hb]; exact h⟩
    | inr r' =>
      constructor
      · rintro ⟨n, h⟩
        cases n with
        | zero => simp [iter] at h
        | succ n => simp only [iter, hb] at h; exact h
      · intro h
        exact ⟨1, by simp only [iter, hb]; exact h⟩
/-- A loop by its invariant: what it comes to is told by spec. -/
theorem loopO_spec {σ ρ : Type} {body : σ → Option (Sum σ ρ)} (I : σ → Prop) (μ : σ → Nat) (spec : σ → ρ)
    (h : ∀ s, I s → (body s = some (.inr (spec s))) ∨ ∃ s', body s = some (.inl s') ∧ I s' ∧ μ s' < μ s ∧ spec s' = spec s) : ∀ s, I s → loopO body s = some (spec s) := by
  have key : ∀ n s, μ s < n → I s → loopO body s = some (spec s) := by
    intro n
    induction n with
    | zero => intro s hs; omega
    | succ n ih =>
      intro s hs hI
      rw [loopO_eq]
      rcases h s hI with h1 | ⟨s', h1, h2, h3, h4⟩
      · rw [h1]
      · rw [h1]
        show loopO body s' = _
        rw [ih s' (by omega) h2, h4]
  exact fun s hI => key (μ s + 1) s (by omega) hI

def lt_ {α β : Type} (x : α) (k : α → β) : β := k x
theorem ltE {α β : Type} {x : α} {k : α → β} {r : β} (h : lt_ x k = r) : ∃ y, x = y ∧ k y = r := ⟨x, rfl, h⟩
theorem bindE {α β : Type} {o : Option α} {f : α → Option β} {r : β} (h : o.bind f = some r) : ∃ x, o = some x ∧ f x = some r := by
  cases o with
  | none => cases h
  | some x => exact ⟨x, rfl, h⟩
theorem condT {β : Type} {b : Bool} {x y r : β} (h : cond b x y = r) : (b = true ∧ x = r) ∨ (b = false ∧ y = r) := by
  cases b
  · exact .inr ⟨rfl, h⟩
  · exact .inl ⟨rfl, h⟩
theorem chkE {β : Type} {b : Bool} {f : Unit → Option β} {r : β} (h : (chk b).bind f = some r) : b = true ∧ f () = some r := by
  cases b
  · cases h
  · exact ⟨rfl, h⟩
theorem bndE {ρ σ : Type} {x : Option (Sum σ ρ)} {k : σ → Option ρ} {r : ρ} (h : bnd x k = some r) : ∃ y, x = some y ∧ (∀ s, y = .inl s → k s = some r) ∧ ∀ z, y = .inr z → z = r := by
  obtain ⟨y, h1, h2⟩ := bindE h
  refine ⟨y, h1, ?_, ?_⟩
  · rintro s rfl; exact h2
  · rintro z rfl; exact Option.some.inj h2
theorem iterE {σ ρ : Type} {body : σ → Option (Sum σ ρ)} {n : Nat} {s : σ} {r : ρ} (h : iter body n s = some r) : ∃ n' q, n = n' + 1 ∧ body s = some q ∧ (∀ s', q = .inl s' → iter body n' s' = some r) ∧ ∀ z, q = .inr z → z = r := by
  cases n with
  | zero => cases h
  | succ n =>
    simp only [iter] at h
    cases hb : body s with
    | none => rw [hb] at h; cases h
    | some q =>
      rw [hb] at h
      refine ⟨n, q, rfl, rfl, ?_, ?_⟩
      · rintro s' rfl; exact h
      · rintro z rfl; exact Option.some.inj h

theorem idx_some {α : Type} {l : List α} {i : Int} {x : α} (h : idx l i = some x) : 0 ≤ i ∧ i < l.length ∧ l[i.toNat]? = some x := by
  unfold idx at h
  split at h
  · have := (List.getElem?_eq_some_iff.1 h).1
    exact ⟨by assumption, by omega, h⟩
  · cases h
theorem slc_some {α : Type} {l y : List α} {a b : Int} (h : slc l a b = some y) : (0 ≤ a ∧ a ≤ b ∧ b ≤ l.length) ∧ y = (l.take b.toNat).drop a.toNat ∧ (y.length : Int) = b - a := by
  unfold slc at h
  split at h
  · rename_i hc
    cases h
    refine ⟨hc, rfl, ?_⟩
    rw [List.length_drop, List.length_take]
    omega
  · cases h
theorem app_some {α : Type} {l x y : List α} (h : app l x = some y) : l.length + x.length ≤ 137438953472 ∧ y = l ++ x := by
  unfold app at h
  split at h
  · cases h; exact ⟨by assumption, rfl⟩
  · cases h
theorem cat_some {l x y : List UInt8} (h : cat l x = some y) : l.length + x.length ≤ 9223372036854775807 ∧ y = l ++ x := by
  unfold cat at h
  split at h
  · cases h; exact ⟨by assumption, rfl⟩
  · cases h
theorem upd_some {α : Type} {l y : List α} {i : Int} {x : α} (h : upd l i x = some y) : (0 ≤ i ∧ i < l.length) ∧ y = l.set i.toNat x := by
  unfold upd at h
  split at h
  · cases h; exact ⟨by assumption, rfl⟩
  · cases h
theorem mk_some {α : Type} {z : α} {n : Int} {y : List α} (h : mk z n = some y) : (0 ≤ n ∧ n ≤ 137438953472) ∧ y = List.replicate n.toNat z := by
  unfold mk at h
  split at h
  · cases h; exact ⟨by assumption, rfl⟩
  · cases h

theorem seq_raw (l m : List UInt8) : (ByteArray.toList ⟨l.toArray⟩ == ByteArray.toList ⟨m.toArray⟩) = (l == m) := by rw [toList_data, toList_data]
theorem sne_raw (l m : List UInt8) : (!(ByteArray.toList ⟨l.toArray⟩ == ByteArray.toList ⟨m.toArray⟩)) = (l != m) := by rw [seq_raw]; rfl

/-! numbers without a sign -/
theorem q8_wrap (e : Int) : IntKind.u8.wrap e = ((UInt8.ofInt e).toNat : Int) := by
  rw [wu8m]
  simp [UInt8.ofInt]
  omega
theorem q64_wrap (e : Int) : IntKind.u64.wrap e = ((UInt64.ofInt e).toNat : Int) := by
  rw [wu64m]
  simp [UInt64.ofInt]
  omega
theorem q32_wrap (e : Int) : IntKind.u32.wrap e = ((UInt32.ofInt e).toNat : Int) := by
  have : IntKind.u32.wrap e = e % 4294967296 := by simp [IntKind.wrap, IntKind.bits, IntKind.signed]
  rw [this]
  simp [UInt32.ofInt]
  omega

theorem q32_self (x : UInt32) : IntKind.u32.wrap (x.toNat : Int) = (x.toNat : Int) := by
  have : IntKind.u32.wrap (x.toNat : Int) = (x.toNat : Int) % 4294967296 := by simp [IntKind.wrap, IntKind.bits, IntKind.signed]
  rw [this]; have := x.toNat_lt; omega
theorem q8_self (x : UInt8) : IntKind.u8.wrap (x.toNat : Int) = (x.toNat : Int) := by rw [wu8m]; have := x.toNat_lt; omega
theorem q64_self (x : UInt64) : IntKind.u64.wrap (x.toNat : Int) = (x.toNat : Int) := by rw [wu64m]; have := x.toNat_lt; omega
theorem q64_u8 (x : UInt8) : IntKind.u64.wrap (x.toNat : Int) = (x.toUInt64.toNat : Int) := by rw [wu64m]; have := x.toNat_lt; simp; omega
theorem q32_u8 (x : UInt8) : IntKind.u32.wrap (x.toNat : Int) = (x.toUInt32.toNat : Int) := by
  have : IntKind.u32.wrap (x.toNat : Int) = (x.toNat : Int) % 4294967296 := by simp [IntKind.wrap, IntKind.bits, IntKind.signed]
  rw [this]; have := x.toNat_lt; simp; omega
theorem q8_u64 (x : UInt64) : IntKind.u8.wrap (x.toNat : Int) = (x.toUInt8.toNat : Int) := by rw [wu8m]; simp
theorem q64_add (x y : UInt64) (a b : Int) (ha : a = (x.toNat : Int)) (hb : b = (y.toNat : Int)) : IntKind.u64.wrap (a + b) = ((x + y).toNat : Int) := by subst ha hb; rw [wu64m]; simp
theorem q64_mul (x y : UInt64) (a b : Int) (ha : a = (x.toNat : Int)) (hb : b = (y.toNat : Int)) : IntKind.u64.wrap (a * b) = ((x * y).toNat : Int) := by subst ha hb; rw [wu64m]; simp
theorem q64_sub (x y : UInt64) (a b : Int) (ha : a = (x.toNat : Int)) (hb : b = (y.toNat : Int)) : IntKind.u64.wrap (a - b) = ((x - y).toNat : Int) := by
  subst ha hb; rw [wu64m, UInt64.toNat_sub]; have := x.toNat_lt; have := y.toNat_lt; omega
theorem q8_sub (x y : UInt8) (a b : Int) (ha : a = (x.toNat : Int)) (hb : b = (y.toNat : Int)) : IntKind.u8.wrap (a - b) = ((x - y).toNat : Int) := by
  subst ha hb; rw [wu8m, UInt8.toNat_sub]; have := x.toNat_lt; have := y.toNat_lt; omega
theorem q8_add (x y : UInt8) (a b : Int) (ha : a = (x.toNat : Int)) (hb : b = (y.toNat : Int)) : IntKind.u8.wrap (a + b) = ((x + y).toNat : Int) := by subst ha hb; rw [wu8m]; simp
theorem q64_quo (x y : UInt64) (a b : Int) (ha : a = (x.toNat : Int)) (hb : b = (y.toNat : Int)) : IntKind.u64.wrap (Int.tdiv a b) = ((x / y).toNat : Int) := by
  subst ha hb
  rw [wu64m, show Int.tdiv (x.toNat : Int) (y.toNat : Int) = ((x.toNat / y.toNat : Nat) : Int) from rfl, UInt64.toNat_div]
  have := x.toNat_lt
  have hd := Nat.div_le_self x.toNat y.toNat
  generalize x.toNat / y.toNat = q at hd ⊢
  omega
theorem q64_rem (x y : UInt64) (a b : Int) (ha : a = (x.toNat : Int)) (hb : b = (y.toNat : Int)) : Int.tmod a b = ((x % y).toNat : Int) := by
  subst ha hb
  rw [UInt64.toNat_mod]; rfl
theorem q8_quo (x y : UInt8) (a b : Int) (ha : a = (x.toNat : Int)) (hb : b = (y.toNat : Int)) : IntKind.u8.wrap (Int.tdiv a b) = ((x / y).toNat : Int) := by
  subst ha hb
  rw [wu8m, show Int.tdiv (x.toNat : Int) (y.toNat : Int) = ((x.toNat / y.toNat : Nat) : Int) from rfl, UInt8.toNat_div]
  have := x.toNat_lt
  have hd := Nat.div_le_self x.toNat y.toNat
  generalize x.toNat / y.toNat = q at hd ⊢
  omega
theorem q8_rem (x y : UInt8) (a b : Int) (ha : a = (x.toNat : Int)) (hb : b = (y.toNat : Int)) : Int.tmod a b = ((x % y).toNat : Int) := by
  subst ha hb
  rw [UInt8.toNat_mod]; rfl
theorem shr8_run {P : Program} {w : World} (x : UInt8) {yk : IntKind} (y : Int) (h : 0 ≤ y) : (vS (Op.shift .shr .u8 (x.toNat : Int) yk y)).run P w = .ok (.value (.int .u8 ((shr8 x y).toNat : Int))) w := by
  refine vS_run ?_
  have h1 : ¬ (y < 0) := by omega
  have h2 : (x.toNat : Int).fdiv (2 ^ min y.toNat (IntKind.bits .u8)) = (x.toNat : Int) / 2 ^ min y.toNat 8 := Int.fdiv_eq_ediv_of_nonneg _ (by have : (0 : Int) < 2 ^ min y.toNat 8 := Int.pow_pos (by decide); exact Int.le_of_lt this)
  have h3 : ((x.toNat / 2 ^ min y.toNat 8 : Nat) : Int) = ((shr8 x y).toNat : Int) := by
    unfold shr8
    have := x.toNat_lt
    have hd := Nat.div_le_self x.toNat (2 ^ min y.toNat 8)
    generalize x.toNat / 2 ^ min y.toNat 8 = q at hd ⊢
    simp only [UInt8.toNat_ofNat']
    omega
  simp only [Op.shift, h1, if_false, Sem.run_pure, h2]
  rw [← h3]
  simp
theorem shl8_run {P : Program} {w : World} (x : UInt8) {yk : IntKind} (y : Int) (h : 0 ≤ y) : (vS (Op.shift .shl .u8 (x.toNat : Int) yk y)).run P w = .ok (.value (.int .u8 ((shl8 x y).toNat : Int))) w := by
  refine vS_run ?_
  have h1 : ¬ (y < 0) := by omega
  simp only [Op.shift, h1, if_false, Sem.run_pure]
  rw [q8_wrap]
  rfl
theorem q8_and (x y : UInt8) (a b : Int) (ha : a = (x.toNat : Int)) (hb : b = (y.toNat : Int)) : Go.bits .and .u8 a b = ((x &&& y).toNat : Int) := by
  subst ha hb
  have hx : BitVec.ofInt (IntKind.bits .u8) (x.toNat : Int) = x.toBitVec := by apply BitVec.eq_of_toNat_eq; show (BitVec.ofInt 8 (x.toNat : Int)).toNat = _; rw [BitVec.ofInt_natCast]; simp; rfl
  have hy : BitVec.ofInt (IntKind.bits .u8) (y.toNat : Int) = y.toBitVec := by apply BitVec.eq_of_toNat_eq; show (BitVec.ofInt 8 (y.toNat : Int)).toNat = _; rw [BitVec.ofInt_natCast]; simp; rfl
  unfold Go.bits
  simp only [hx, hy]
  exact q8_self (x &&& y)
theorem q8_or (x y : UInt8) (a b : Int) (ha : a = (x.toNat : Int)) (hb : b = (y.toNat : Int)) : Go.bits .or .u8 a b = ((x ||| y).toNat : Int) := by
  subst ha hb
  have hx : BitVec.ofInt (IntKind.bits .u8) (x.toNat : Int) = x.toBitVec := by apply BitVec.eq_of_toNat_eq; show (BitVec.ofInt 8 (x.toNat : Int)).toNat = _; rw [BitVec.ofInt_natCast]; simp; rfl
  have hy : BitVec.ofInt (IntKind.bits .u8) (y.toNat : Int) = y.toBitVec := by apply BitVec.eq_of_toNat_eq; show (BitVec.ofInt 8 (y.toNat : Int)).toNat = _; rw [BitVec.ofInt_natCast]; simp; rfl
  unfold Go.bits
  simp only [hx, hy]
  exact q8_self (x ||| y)
theorem q8_xor (x y : UInt8) (a b : Int) (ha : a = (x.toNat : Int)) (hb : b = (y.toNat : Int)) : Go.bits .xor .u8 a b = ((x ^^^ y).toNat : Int) := by
  subst ha hb
  have hx : BitVec.ofInt (IntKind.bits .u8) (x.toNat : Int) = x.toBitVec := by apply BitVec.eq_of_toNat_eq; show (BitVec.ofInt 8 (x.toNat : Int)).toNat = _; rw [BitVec.ofInt_natCast]; simp; rfl
  have hy : BitVec.ofInt (IntKind.bits .u8) (y.toNat : Int) = y.toBitVec := by apply BitVec.eq_of_toNat_eq; show (BitVec.ofInt 8 (y.toNat : Int)).toNat = _; rw [BitVec.ofInt_natCast]; simp; rfl
  unfold Go.bits
  simp only [hx, hy]
  exact q8_self (x ^^^ y)
theorem shr32_run {P : Program} {w : World} (x : UInt32) {yk : IntKind} (y : Int) (h : 0 ≤ y) : (vS (Op.shift .shr .u32 (x.toNat : Int) yk y)).run P w = .ok (.value (.int .u32 ((shr32 x y).toNat : Int))) w := by
  refine vS_run ?_
  have h1 : ¬ (y < 0) := by omega
  have h2 : (x.toNat : Int).fdiv (2 ^ min y.toNat (IntKind.bits .u32)) = (x.toNat : Int) / 2 ^ min y.toNat 32 := Int.fdiv_eq_ediv_of_nonneg _ (by have : (0 : Int) < 2 ^ min y.toNat 32 := Int.pow_pos (by decide); exact Int.le_of_lt this)
  have h3 : ((x.toNat / 2 ^ min y.toNat 32 : Nat) : Int) = ((shr32 x y).toNat : Int) := by
    unfold shr32
    have := x.toNat_lt
    have hd := Nat.div_le_self x.toNat (2 ^ min y.toNat 32)
    generalize x.toNat / 2 ^ min y.toNat 32 = q at hd ⊢
    simp only [UInt32.toNat_ofNat']
    omega
  simp only [Op.shift, h1, if_false, Sem.run_pure, h2]
  rw [← h3]
  simp
theorem shl32_run {P : Program} {w : World} (x : UInt32) {yk : IntKind} (y : Int) (h : 0 ≤ y) : (vS (Op.shift .shl .u32 (x.toNat : Int) yk y)).run P w = .ok (.value (.int .u32 ((shl32 x y).toNat : Int))) w := by
  refine vS_run ?_
  have h1 : ¬ (y < 0) := by omega
  simp only [Op.shift, h1, if_false, Sem.run_pure]
  rw [q32_wrap]
  rfl
theorem q32_and (x y : UInt32) (a b : Int) (ha : a = (x.toNat : Int)) (hb : b = (y.toNat : Int)) : Go.bits .and .u32 a b = ((x &&& y).toNat : Int) := by
  subst ha hb
  have hx : BitVec.ofInt (IntKind.bits .u32) (x.toNat : Int) = x.toBitVec := by apply BitVec.eq_of_toNat_eq; show (BitVec.ofInt 32 (x.toNat : Int)).toNat = _; rw [BitVec.ofInt_natCast]; simp; rfl
  have hy : BitVec.ofInt (IntKind.bits .u32) (y.toNat : Int) = y.toBitVec := by apply BitVec.eq_of_toNat_eq; show (BitVec.ofInt 32 (y.toNat : Int)).toNat = _; rw [BitVec.ofInt_natCast]; simp; rfl
  unfold Go.bits
  simp only [hx, hy]
  exact q32_self (x &&& y)
theorem q32_or (x y : UInt32) (a b : Int) (ha : a = (x.toNat : Int)) (hb : b = (y.toNat : Int)) : Go.bits .or .u32 a b = ((x ||| y).toNat : Int) := by
  subst ha hb
  have hx : BitVec.ofInt (IntKind.bits .u32) (x.toNat : Int) = x.toBitVec := by apply BitVec.eq_of_toNat_eq; show (BitVec.ofInt 32 (x.toNat : Int)).toNat = _; rw [BitVec.ofInt_natCast]; simp; rfl
  have hy : BitVec.ofInt (IntKind.bits .u32) (y.toNat : Int) = y.toBitVec := by apply BitVec.eq_of_toNat_eq; show (BitVec.ofInt 32 (y.toNat : Int)).toNat = _; rw [BitVec.ofInt_natCast]; simp; rfl
  unfold Go.bits
  simp only [hx, hy]
  exact q32_self (x ||| y)
theorem q32_xor (x y : UInt32) (a b : Int) (ha : a = (x.toNat : Int)) (hb : b = (y.toNat : Int)) : Go.bits .xor .u32 a b = ((x ^^^ y).toNat : Int) := by
  subst ha hb
  have hx : BitVec.ofInt (IntKind.bits .u32) (x.toNat : Int) = x.toBitVec := by apply BitVec.eq_of_toNat_eq; show (BitVec.ofInt 32 (x.toNat : Int)).toNat = _; rw [BitVec.ofInt_natCast]; simp; rfl
  have hy : BitVec.ofInt (IntKind.bits .u32) (y.toNat : Int) = y.toBitVec := by apply BitVec.eq_of_toNat_eq; show (BitVec.ofInt 32 (y.toNat : Int)).toNat = _; rw [BitVec.ofInt_natCast]; simp; rfl
  unfold Go.bits
  simp only [hx, hy]
  exact q32_self (x ^^^ y)
theorem shr64_run {P : Program} {w : World} (x : UInt64) {yk : IntKind} (y : Int) (h : 0 ≤ y) : (vS (Op.shift .shr .u64 (x.toNat : Int) yk y)).run P w = .ok (.value (.int .u64 ((shr64 x y).toNat : Int))) w := by
  refine vS_run ?_
  have h1 : ¬ (y < 0) := by omega
  have h2 : (x.toNat : Int).fdiv (2 ^ min y.toNat (IntKind.bits .u64)) = (x.toNat : Int) / 2 ^ min y.toNat 64 := Int.fdiv_eq_ediv_of_nonneg _ (by have : (0 : Int) < 2 ^ min y.toNat 64 := Int.pow_pos (by decide); exact Int.le_of_lt this)
  have h3 : ((x.toNat / 2 ^ min y.toNat 64 : Nat) : Int) = ((shr64 x y).toNat : Int) := by
    unfold shr64
    have := x.toNat_lt
    have hd := Nat.div_le_self x.toNat (2 ^ min y.toNat 64)
    generalize x.toNat / 2 ^ min y.toNat 64 = q at hd ⊢
    simp only [UInt64.toNat_ofNat']
    omega
  simp only [Op.shift, h1, if_false, Sem.run_pure, h2]
  rw [← h3]
  simp
theorem shl64_run {P : Program} {w : World} (x : UInt64) {yk : IntKind} (y : Int) (h : 0 ≤ y) : (vS (Op.shift .shl .u64 (x.toNat : Int) yk y)).run P w = .ok (.value (.int .u64 ((shl64 x y).toNat : Int))) w := by
  refine vS_run ?_
  have h1 : ¬ (y < 0) := by omega
  simp only [Op.shift, h1, if_false, Sem.run_pure]
  rw [q64_wrap]
  rfl
theorem q64_and (x y : UInt64) (a b : Int) (ha : a = (x.toNat : Int)) (hb : b = (y.toNat : Int)) : Go.bits .and .u64 a b = ((x &&& y).toNat : Int) := by
  subst ha hb
  have hx : BitVec.ofInt (IntKind.bits .u64) (x.toNat : Int) = x.toBitVec := by apply BitVec.eq_of_toNat_eq; show (BitVec.ofInt 64 (x.toNat : Int)).toNat = _; rw [BitVec.ofInt_natCast]; simp; rfl
  have hy : BitVec.ofInt (IntKind.bits .u64) (y.toNat : Int) = y.toBitVec := by apply BitVec.eq_of_toNat_eq; show (BitVec.ofInt 64 (y.toNat : Int)).toNat = _; rw [BitVec.ofInt_natCast]; simp; rfl
  unfold Go.bits
  simp only [hx, hy]
  exact q64_self (x &&& y)
theorem q64_or (x y : UInt64) (a b : Int) (ha : a = (x.toNat : Int)) (hb : b = (y.toNat : Int)) : Go.bits .or .u64 a b = ((x ||| y).toNat : Int) := by
  subst ha hb
  have hx : BitVec.ofInt (IntKind.bits .u64) (x.toNat : Int) = x.toBitVec := by apply BitVec.eq_of_toNat_eq; show (BitVec.ofInt 64 (x.toNat : Int)).toNat = _; rw [BitVec.ofInt_natCast]; simp; rfl
  have hy : BitVec.ofInt (IntKind.bits .u64) (y.toNat : Int) = y.toBitVec := by apply BitVec.eq_of_toNat_eq; show (BitVec.ofInt 64 (y.toNat : Int)).toNat = _; rw [BitVec.ofInt_natCast]; simp; rfl
  unfold Go.bits
  simp only [hx, hy]
  exact q64_self (x ||| y)
theorem q64_xor (x y : UInt64) (a b : Int) (ha : a = (x.toNat : Int)) (hb : b = (y.toNat : Int)) : Go.bits .xor .u64 a b = ((x ^^^ y).toNat : Int) := by
  subst ha hb
  have hx : BitVec.ofInt (IntKind.bits .u64) (x.toNat : Int) = x.toBitVec := by apply BitVec.eq_of_toNat_eq; show (BitVec.ofInt 64 (x.toNat : Int)).toNat = _; rw [BitVec.ofInt_natCast]; simp; rfl
  have hy : BitVec.ofInt (IntKind.bits .u64) (y.toNat : Int) = y.toBitVec := by apply BitVec.eq_of_toNat_eq; show (BitVec.ofInt 64 (y.toNat : Int)).toNat = _; rw [BitVec.ofInt_natCast]; simp; rfl
  unfold Go.bits
  simp only [hx, hy]
  exact q64_self (x ^^^ y)
theorem shrI_run {P : Program} {w : World} (x : Int) {yk : IntKind} (y : Int) (h : 0 ≤ y) : (vS (Op.shift .shr .i64 x yk y)).run P w = .ok (.value (.int .i64 (shrI x y))) w := by
  refine vS_run ?_
  have h1 : ¬ (y < 0) := by omega
  have h2 : x.fdiv (2 ^ min y.toNat (IntKind.bits .i64)) = x / 2 ^ min y.toNat 64 := Int.fdiv_eq_ediv_of_nonneg _ (by have : (0 : Int) < 2 ^ min y.toNat 64 := Int.pow_pos (by decide); exact Int.le_of_lt this)
  simp only [Op.shift, h1, if_false, Sem.run_pure, h2]
  rfl
theorem shlI_run {P : Program} {w : World} (x : Int) {yk : IntKind} (y : Int) (h : 0 ≤ y) : (vS (Op.shift .shl .i64 x yk y)).run P w = .ok (.value (.int .i64 (shlI x y))) w := by
  refine vS_run ?_
  have h1 : ¬ (y < 0) := by omega
  simp only [Op.shift, h1, if_false, Sem.run_pure]
  rfl

section
variable {P : Program} {B : Code} {n : Cx} {p : List Nat} {i : Nat} {κ : Kn} {w : World} {Z : Kn → World → Prop} {w0 : World} {F0 : Nat → Prop} {m0 m : Mem} {σ : List Item}
/-- Slots told in other words. -/
theorem knowR {Q : Exit → Act → World → Prop} {J : Nat → Act → World → Prop} {k : List It} (κ' : Kn) (h : κ = κ') (hk : R P B Q J n k κ' w) : R P B Q J n k κ w := h ▸ hk
theorem newS (d : Option Nat) (v : Nat → Value) (cs : List Value) (t : TypeId) (H : St w0 F0 m0 m σ w) (h : fetchRun P B n p i κ w = some (d, .ok (.value (v w.heap.size)) (w.alloc (.cells cs.toArray t (0, 0)))))
    (hk : ∀ g w1, St w0 F0 m0 m (blkI g cs t :: σ) w1 → Z (putk d (v g) κ) w1) : Step P B n p i κ w Z :=
  newR d v _ h fun g w1 hg hx hb hz => hk g w1 (H.add (j := blkI g cs t) (G := fun k => k = g) hx ⟨hb, fun _ => Iff.rfl⟩ (fun k e => by subst e; omega))
theorem stS (d : Option Nat) (t : TypeId) (n' g off : Nat) (v : Value) (cs : List Value) (e : TypeId) (H : St w0 F0 m0 m σ w) (hn : σ[n']? = some (blkI g cs e)) (ho : fetch B n p i κ = some (d, uS (Instr.storeAt t (.pointer (some ⟨g, off, none⟩)) v))) (ht : oneB P t = true) (hv : v.oneCell' = true) (hoff : off < cs.length)
    (hk : ∀ w1, St w0 F0 m0 m (σ.set n' (blkI g (cs.set off v) e)) w1 → Z (putk d undef κ) w1) : Step P B n p i κ w Z := by
  obtain ⟨F, h1, h2, h3⟩ := H.upd n' hn
  refine stR d t g off v cs.toArray e ho ht hv h1.1 (by simpa using hoff) ?_
  intro w1 hx hg hz
  refine hk w1 (h3 w1 (blkI g (cs.set off v) e) (fun k => k = g) (hx.mono (fun k _ e => (h1.2 k).2 e)) ⟨?_, fun _ => Iff.rfl⟩ (fun k e => .inl ((h1.2 k).2 e)))
  rw [hg]
  congr 2
  simp [Array.set!_eq_setIfInBounds]
theorem stAggS (d : Option Nat) (t : TypeId) (n' g off : Nat) (vs cs cs' : List Value) (e : TypeId) (H : St w0 F0 m0 m σ w) (hn : σ[n']? = some (blkI g cs e)) (ho : fetch B n p i κ = some (d, uS (Instr.storeAt t (.pointer (some ⟨g, off, none⟩)) (.agg vs.toArray)))) (ht : aggB P t vs.length = true) (hv : vs.all (·.oneCell') = true) (hoff : off + vs.length ≤ cs.length)
    (hc : cs.take off ++ vs ++ cs.drop (off + vs.length) = cs') (hk : ∀ w1, St w0 F0 m0 m (σ.set n' (blkI g cs' e)) w1 → Z (putk d undef κ) w1) : Step P B n p i κ w Z := by
  obtain ⟨F, h1, h2, h3⟩ := H.upd n' hn
  refine stAggR d t g off vs cs.toArray cs'.toArray e ho ht hv h1.1 (by simpa using hoff) (by simpa using congrArg List.toArray hc) ?_
  intro w1 hx hg hz
  exact hk w1 (h3 w1 (blkI g cs' e) (fun k => k = g) (hx.mono (fun k _ e => (h1.2 k).2 e)) ⟨hg, fun _ => Iff.rfl⟩ (fun k e => .inl ((h1.2 k).2 e)))

/-- A row that is nil. -/
theorem St.nilR (H : St w0 F0 m0 m σ w) {α : Type} (r : Rep α) (t : TypeId) : St w0 F0 m0 m (rowI r t none 0 [] :: σ) w :=
  H.add (Kp.refl _ _) (G := fun _ => False) ⟨⟨[], rfl, World.ownsRow_nil _ _ _ _⟩, fun k => ⟨False.elim, fun e => by cases e⟩⟩ (fun _ e => e.elim)
/-- A block of so many elements, as a row. -/
theorem St.toRow (H : St w0 F0 m0 m σ w) {α : Type} {r : Rep α} {l : List α} (n' : Nat) {g : Nat} {cs : List Value} {t : TypeId} (hn : σ[n']? = some (blkI g cs t)) (hr : Rows r m cs l) (hl : l.length ≤ maxLen) : St w0 F0 m0 m (σ.set n' (rowI r t (some ⟨g, 0, none⟩) l.length l)) w := by
  obtain ⟨F, h1, h2, h3⟩ := H.upd n' hn
  refine h3 w _ (fun k => k = g) (Kp.refl _ _) ⟨⟨cs, hr, ?_⟩, fun k => ⟨fun e => by subst e; rfl, fun e => by cases e; rfl⟩⟩ (fun k e => .inl ((h1.2 k).2 e))
  have := own_of_blk (base := 0) (n := l.length) (sz := r.sz) h1.1 (Nat.zero_le _) hl (by simpa using hr.len)
  simpa using this
/-- append(v, x...), v owned. -/
theorem appS (d : Option Nat) {α : Type} {r : Rep α} (t e by_ : Nat) (z : Value) (ty : TypeId) (n' : Nat) (A X : Option Addr) (c m' c' : Nat) (l x y : List α) (news : List Value) {lo hi : Nat} (H : St w0 F0 m0 m σ w) (hn : σ[n']? = some (rowI r e A c l)) (he : elB P t e r.sz by_ z) (hz : z.cells.size = r.sz) (hsz : 0 < r.sz)
    (ho : fetch B n p i κ = some (d, vS (Builtin.append_ #[t, t] ty #[.slice A l.length c, .slice X m' c']))) (hX : Cs lo hi w X news) (hr : Rows r m news x) (hm : x.length = m') (hy : app l x = some y) (hby : 0 < by_) (hby2 : by_ ≤ 1024)
    (hk : ∀ A' c1 w1, St w0 F0 m0 m (σ.set n' (rowI r e A' c1 y)) w1 → Z (putk d (.slice A' y.length c1) κ) w1) : Step P B n p i κ w Z := by
  obtain ⟨F, ⟨⟨xs, h1, ho1⟩, hF⟩, h2, h3⟩ := H.upd n' hn
  obtain ⟨hb, rfl⟩ := app_some hy
  subst hm
  refine appR d t e r.sz by_ z ty 0 A X l.length c x.length c' xs news he hz hsz ho ho1 hX hr.len hr.one ?_ hby (Nat.zero_le _) ?_
  · exact Nat.le_trans (Nat.mul_le_mul hb hby2) (by decide)
  · intro A' c1 w1 hown hkp hblk hc1 hz1
    rw [← List.length_append] at hown hblk ⊢
    refine hk A' c1 w1 (h3 w1 (rowI r e A' c1 (l ++ x)) (fun k => (Value.slice A' (l ++ x).length c1).ownBlock = some k) (hkp.mono (fun k _ e => (hF k).2 e.symm)) ⟨⟨xs ++ news, h1.app hr, hown⟩, fun _ => Iff.rfl⟩ ?_)
    intro k hk
    rcases hblk with e | e
    · exact .inl ((hF k).2 (e ▸ hk))
    · rw [e] at hk
      cases hk
      exact .inr (Nat.le_refl _)
theorem run_appstr (w : World) (base : Nat) (t u ty e : TypeId) (i : TypeInfo) (ht : P.underlying t = some (.slice e)) (hu : P.underlying u = some .string) (hi : P.info? e = some i) (hz : i.zero = some (.int .u8 0))
    (hsize : i.size = 1) (hby : i.bytes = 1) (v : Value) (n : Nat) (xs : List Value) (hown : w.ownsRow base e 1 v n xs) (s : ByteArray) (h63 : n + s.size ≤ maxLen) (hbytes : n + s.size ≤ 140737488355328) (hbase : base ≤ w.heap.size) :
    ∃ v' w', (Builtin.append_ #[t, u] ty #[v, .string s]).run P w = .ok v' w' ∧ w'.ownsRow base e 1 v' (n + s.size) (xs ++ Lib.strCells s) ∧ w.grownBy w' v.ownBlock ∧ (v'.ownBlock = v.ownBlock ∨ v'.ownBlock = some w.heap.size) := by
  obtain ⟨v', w', hr, h1, h2, h3⟩ := Lib.run_append_own_string (P := P) w base t u ty e i ht hu hi hz hsize hby v n xs hown s h63 hbytes hbase
  refine ⟨v', w', hr, h1, h2, ?_⟩
  have hsmall : n + s.size ≤ 9223372036854775807 := by simp only [maxLen] at h63; omega
  have hxl : xs.length = n := by simpa using hown.1
  rcases hown.2 with ⟨rfl, rfl⟩ | ⟨g, cap, cur, rfl, hbg, hg, hnc, hcm, hcs, htake⟩
  · by_cases hm : s.size = 0
    · rw [h3.2 ⟨rfl, hm⟩]; exact .inl rfl
    · have hr2 := run_append_nil_string (P := P) w t u ty e i (.int .u8 0) ht hu hi hz s (by omega) (by omega) (by rw [hby]; omega)
      rw [hr2] at hr
      cases hr
      exact .inr rfl
  · by_cases hroom : n + s.size ≤ cap
    · have hr2 := Lib.run_append_room_string (P := P) w t u ty e i ht hu hi hsize g n cap cur hg s hroom (by simp at hcs; omega)
      rw [hr2] at hr
      cases hr
      exact .inl rfl
    · have hfit : Builtin.nextslicecap (n + s.size) cap * i.bytes ≤ 281474976710656 := by
        rw [hby, Nat.mul_one]
        exact Nat.le_trans (nextslicecap_le (by omega)) (by omega)
      have hr2 := Lib.run_append_grow_string (P := P) w t u ty e i (.int .u8 0) ht hu hi hz ⟨g, 0, none⟩ n cap xs (by rw [hxl, hsize, Nat.mul_one]) (by
        intro j x hj
        rw [Addr.add_lit, Nat.zero_add]
        refine blk_cell hg ?_
        rw [← htake, List.getElem?_take] at hj
        split at hj
        · simpa using hj
        · cases hj) s (by omega) (by omega) hfit
      rw [hr2] at hr
      cases hr
      exact .inr rfl
/-- append(v, s...), s a string. -/
theorem appstrS (d : Option Nat) (t u e : TypeId) (ty : TypeId) (n' : Nat) (A : Option Addr) (c : Nat) (l x y : List UInt8) (H : St w0 F0 m0 m σ w) (hn : σ[n']? = some (rowI rU8 e A c l)) (he : elB P t e 1 1 (.int .u8 0)) (hu : P.underlying u = some .string)
    (ho : fetch B n p i κ = some (d, vS (Builtin.append_ #[t, u] ty #[.slice A l.length c, .string ⟨x.toArray⟩]))) (hy : app l x = some y)
    (hk : ∀ A' c1 w1, St w0 F0 m0 m (σ.set n' (rowI rU8 e A' c1 y)) w1 → Z (putk d (.slice A' y.length c1) κ) w1) : Step P B n p i κ w Z := by
  obtain ⟨F, ⟨⟨xs, h1, ho1⟩, hF⟩, h2, h3⟩ := H.upd n' hn
  obtain ⟨hb, rfl⟩ := app_some hy
  obtain ⟨ht, hinf⟩ := he
  obtain ⟨i0, hi, hzz⟩ := Option.map_eq_some_iff.1 hinf
  simp only [Prod.mk.injEq] at hzz
  obtain ⟨hz0, hz1, hz2⟩ := hzz
  obtain ⟨v', w', hr, h4, h5, h6⟩ := run_appstr (P := P) w 0 t u ty e i0 ht hu hi hz0 hz1 hz2 _ l.length xs ho1 ⟨x.toArray⟩ (by show l.length + x.length ≤ _; simp only [maxLen]; omega) (by show l.length + x.length ≤ _; omega) (Nat.zero_le _)
  obtain ⟨A', c1, rfl, h7, _⟩ := own_shape h4
  have hs : (⟨x.toArray⟩ : ByteArray).size = x.length := rfl
  rw [hs, ← List.length_append] at h4 h6 hr
  refine runR ho (vS_run hr) (hk A' c1 w' (h3 w' (rowI rU8 e A' c1 (l ++ x)) (fun k => (Value.slice A' (l ++ x).length c1).ownBlock = some k) ((Kp.of_gb h5 (run_drawn _ _ hr)).mono (fun k _ e => (hF k).2 e.symm)) ⟨⟨xs ++ bs x, h1.app (Rows.u8.2 rfl), h4⟩, fun _ => Iff.rfl⟩ ?_))
  intro k hk
  rcases h6 with e | e
  · exact .inl ((hF k).2 (e ▸ hk))
  · rw [e] at hk
    cases hk
    exact .inr (Nat.le_refl _)
/-- string(b) -/
theorem b2sS (d : Option Nat) (src dst e' : TypeId) (X : Option Addr) (c : Nat) (l : List UInt8) (hs : P.underlying src = some (.slice e')) (he : P.underlying e' = some (.int .u8)) (hd : P.underlying dst = some .string)
    (ho : fetch B n p i κ = some (d, vS (convert src dst (.slice X l.length c)))) {lo hi : Nat} (hX : Cs lo hi w X (bs l)) (hk : Z (putk d (.string ⟨l.toArray⟩) κ) w) : Step P B n p i κ w Z :=
  b2sR d src dst e' X l.length c l hs he hd ho hX rfl hk
theorem St.rowCs (H : St w0 F0 m0 m σ w) (n' : Nat) {A : Option Addr} {c : Nat} {l : List UInt8} {t : TypeId} (hn : σ[n']? = some (rowI rU8 t A c l)) : Cs 0 w.heap.size w A (bs l) := by
  obtain ⟨F, ⟨⟨xs, h1, ho⟩, hF⟩, _⟩ := H.upd n' hn
  rw [Rows.u8.1 h1] at ho
  exact Cs.of_own ho
theorem St.rowCs' (H : St w0 F0 m0 m σ w) {α : Type} {r : Rep α} (n' : Nat) {A : Option Addr} {c : Nat} {l : List α} {t : TypeId} (hn : σ[n']? = some (rowI r t A c l)) : ∃ xs, Rows r m xs l ∧ Cs 0 w.heap.size w A xs := by
  obtain ⟨F, ⟨⟨xs, h1, ho⟩, hF⟩, _⟩ := H.upd n' hn
  exact ⟨xs, h1, Cs.of_own ho⟩
/-- []byte(s) -/
theorem s2bS (d : Option Nat) (src dst e : TypeId) (l : List UInt8) {u : TypeDesc} (H : St w0 F0 m0 m σ w) (hs : P.underlying src = some u) (hd : P.underlying dst = some (.slice e)) (he : P.underlying e = some (.int .u8))
    (ho : fetch B n p i κ = some (d, vS (convert src dst (.string ⟨l.toArray⟩)))) (hk : ∀ A' c' m1 w1, Sub m m1 → SlI rU8 m1 A' c' l → St w0 F0 m0 m1 σ w1 → Z (putk d (.slice A' l.length c') κ) w1) (hlen : l.length ≤ 9223372036854775807) : Step P B n p i κ w Z := by
  have hx : Ex w (Lib.bytesWorld w e ⟨l.toArray⟩) := ⟨rfl, rfl, rfl, by rw [Lib.bytesWorld_size]; omega, fun k hk _ => Lib.bytesWorld_at_old w e _ k hk, bytesWorld_drawn w e _⟩
  have hnew := Lib.bytesWorld_at_new w e ⟨l.toArray⟩
  have H1 := H.add (j := objI w.heap.size _) (G := fun k => k = w.heap.size) hx ⟨hnew, fun _ => Iff.rfl⟩ (fun k e => by subst e; exact Nat.le_refl _)
  obtain ⟨F, m1, h1, h2, h3, h4⟩ := H1.fix0
  refine runR ho (vS_run (Lib.run_convert_string_bytes w src dst e ⟨l.toArray⟩ hs hd he)) (hk _ _ m1 _ h2 ⟨grownCap_ge w (⟨l.toArray⟩ : ByteArray).size 0 e, grownCap_le_maxLen w (⟨l.toArray⟩ : ByteArray).size 0 e hlen, bs l, Rows.u8.2 rfl, ?_⟩ h4)
  intro j v hj
  have hlt : j < l.length := by
    have := (List.getElem?_eq_some_iff.1 hj).1
    rwa [bs_length] at this
  refine ⟨_, rfl, ?_⟩
  have hb := (h3 w.heap.size ((h1.2 _).2 rfl)).trans h1.1
  have hc := Lib.bytesWorld_cell w e ⟨l.toArray⟩ j hlt
  simp only [World.cell?, hnew] at hc
  rw [Addr.add_lit, Nat.zero_add]
  simp only [mc, hb]
  rw [bs_get _ _ hlt] at hj
  rw [← hj]
  exact hc
/-- xs[lo:hi] of what is fixed. -/
theorem sliS (d : Option Nat) {α : Type} {r : Rep α} (t e : Nat) (A : Option Addr) (c : Nat) (l y : List α) (lo hi : Option Value) (a b : Int) (hs : SlI r m A c l) (ho : fetch B n p i κ = some (d, vS (Instr.sliceAt t (.slice A l.length c) lo hi none))) (ht : slB P t e r.sz = true)
    (hl : (lo = none ∧ a = 0) ∨ ∃ ik, lo = some (.int ik a)) (hh : (hi = none ∧ b = l.length) ∨ ∃ ik, hi = some (.int ik b)) (hy : slc l a b = some y)
    (hk : ∀ A' c', SlI r m A' c' y → Z (putk d (.slice A' y.length c') κ) w) : Step P B n p i κ w Z := by
  obtain ⟨⟨h1, h2, h3⟩, hy1, hy2⟩ := slc_some hy
  have hle := hs.le
  have e1 : ((a.toNat : Nat) : Int) = a := by omega
  have e2 : ((b.toNat : Nat) : Int) = b := by omega
  refine runR ho (sli_run t e r.sz A l.length c lo hi a.toNat b.toNat ht ?_ ?_ (by omega) (by omega)) ?_
  · rcases hl with ⟨h, h'⟩ | ⟨ik, h⟩
    · exact .inl ⟨h, by omega⟩
    · exact .inr ⟨ik, a, h, e1.symm⟩
  · rcases hh with ⟨h, h'⟩ | ⟨ik, h⟩
    · exact .inl ⟨h, by omega⟩
    · exact .inr ⟨ik, b, h, e2.symm⟩
  · rw [show b.toNat - a.toNat = y.length by omega]
    refine hk _ _ ⟨by omega, Nat.le_trans (Nat.sub_le _ _) hs.max, ?_⟩
    obtain ⟨xs, h4, h5⟩ := hs.cs
    refine ⟨(xs.take (b.toNat * r.sz)).drop (a.toNat * r.sz), by rw [hy1]; exact (h4.take _).drop _, ?_⟩
    refine (h5.take _).cut a.toNat c ?_
    rw [List.length_take, h4.len]
    exact Nat.le_trans (Nat.min_le_right _ _) (Nat.mul_le_mul_right _ hs.le)
/-- &xs[i] -/
theorem idxS (d : Option Nat) (t e sz : Nat) (A : Option Addr) (a : Addr) (len cap : Nat) (ik : IntKind) (ix : Int) (hA : A = some a) (ho : fetch B n p i κ = some (d, vS (Instr.indexAt t (.slice A len cap) (.int ik ix)))) (ht : slB P t e sz = true)
    (h0 : 0 ≤ ix) (h1 : ix < len) (hk : Z (putk d (.pointer (some (a.add (ix.toNat * sz)))) κ) w) : Step P B n p i κ w Z :=
  idxR d t e sz A a len cap ik ix _ hA ho ht h0 h1 rfl hk
theorem slc_le {α : Type} {l y : List α} {a b : Int} (h : slc l a b = some y) : y.length ≤ l.length := by
  obtain ⟨⟨h1, h2, h3⟩, hy1, hy2⟩ := slc_some h
  omega
theorem str_idx_run (t : TypeId) (l : List UInt8) (ik : IntKind) (ix : Int) (b : UInt8) (ht : P.underlying t = some .string) (hb : idx l ix = some b) : (vS (Instr.index t (.string ⟨l.toArray⟩) (.int ik ix))).run P w = .ok (.value (.int .u8 (b.toNat : Int))) w := by
  obtain ⟨h0, h1, h2⟩ := idx_some hb
  have := str_run (P := P) (w := w) t l ik ix ix.toNat ht h0 h1 rfl
  rw [List.getD_eq_getElem?_getD, h2] at this
  exact this
/-- s[i] -/
theorem strS (d : Option Nat) (t : TypeId) (l : List UInt8) (ik : IntKind) (ix : Int) (b : UInt8) (ho : fetch B n p i κ = some (d, vS (Instr.index t (.string ⟨l.toArray⟩) (.int ik ix)))) (ht : P.underlying t = some .string)
    (hb : idx l ix = some b) (hk : Z (putk d (.int .u8 (b.toNat : Int)) κ) w) : Step P B n p i κ w Z := by
  obtain ⟨h0, h1, h2⟩ := idx_some hb
  refine strR d t l ik ix ix.toNat ho ht h0 h1 rfl ?_
  rw [List.getD_eq_getElem?_getD, h2]
  exact hk
theorem cat_runY (t : TypeId) {l x y : List UInt8} (hy : cat l x = some y) {w : World} : (vS (Op.stringOp .add ⟨l.toArray⟩ ⟨x.toArray⟩)).run P w = .ok (.value (.string ⟨y.toArray⟩)) w := by
  obtain ⟨h1, rfl⟩ := cat_some hy
  exact cat_run t l x h1
theorem catS (d : Option Nat) (t : TypeId) (l x y : List UInt8) (ho : fetch B n p i κ = some (d, vS (Op.stringOp .add ⟨l.toArray⟩ ⟨x.toArray⟩))) (hy : cat l x = some y) (hk : Z (putk d (.string ⟨y.toArray⟩) κ) w) : Step P B n p i κ w Z := by
  obtain ⟨h1, rfl⟩ := cat_some hy
  exact catR d t l x ho h1 hk
/-- internal/bytealg.IndexByteString, an entry. -/
theorem ixbS (d : Option Nat) (f : FuncId) {fn : Func} (l : List UInt8) (c : UInt8) (hf : P.funcs[f]? = some fn) (hname : (fn.name == "runtime.NumGoroutine") = false) (hb : fn.body.isNone = true) (hn : Extern.findNext fn = none) (he : Extern.find fn = some Extern.BytealgIndexByte.indexByte)
    (ho : fetch B n p i κ = some (d, callFunc f #[.string ⟨l.toArray⟩, .int .u8 (c.toNat : Int)])) (hk : Z (putk d (.int .i64 (Lib.indexByte l c)) κ) w) : Step P B n p i κ w Z := by
  refine ixbR d f l (c.toNat : Int) hf hname hb hn he ho ?_
  rw [show (c.toNat : Int).toNat.toUInt8 = c by simp]
  exact hk
/-- s[lo:hi] of a string. -/
theorem str_slice_run (t : TypeId) (l y : List UInt8) (lo hi : Option Value) (a b : Int) (ht : P.underlying t = some .string)
    (hl : (lo = none ∧ a = 0) ∨ ∃ ik, lo = some (.int ik a)) (hh : (hi = none ∧ b = l.length) ∨ ∃ ik, hi = some (.int ik b)) (hy : slc l a b = some y) :
    (vS (Instr.sliceAt t (.string ⟨l.toArray⟩) lo hi none)).run P w = .ok (.value (.string ⟨y.toArray⟩)) w := by
  obtain ⟨⟨h1, h2, h3⟩, hy1, hy2⟩ := slc_some hy
  refine vS_run ?_
  have hs : (⟨l.toArray⟩ : ByteArray).size = l.length := rfl
  have hb : ∀ (ik : IntKind) (x : Int) (m : Nat) (c : BoundsCode), 0 ≤ x → x ≤ m → (Instr.sliceBound (.int ik x) m c).run P w = .ok x.toNat w := by
    intro ik x m c h0 hx
    simp only [Instr.sliceBound, asIntOf, Sem.run_bind, Sem.run_pure, Result.andThen_ok, h0, hx, and_self, if_true]
  have hbs : (Instr.sliceBounds false l.length l.length lo hi none).run P w = .ok (a.toNat, b.toNat, l.length) w := by
    have e2 : (((b.toNat : Nat)) : Int) = b := by omega
    have hb1 : ∀ ik c, (Instr.sliceBound (.int ik a) b.toNat c).run P w = .ok a.toNat w := fun ik c => hb ik a _ c h1 (by omega)
    have hb2 : ∀ ik c, (Instr.sliceBound (.int ik b) l.length c).run P w = .ok b.toNat w := fun ik c => hb ik b _ c (by omega) h3
    have hb3 : ∀ ik c, b = l.length → (Instr.sliceBound (.int ik a) l.length c).run P w = .ok a.toNat w := fun ik c e => hb ik a _ c h1 (by omega)
    rcases hl with ⟨rfl, rfl⟩ | ⟨ik, rfl⟩ <;> rcases hh with ⟨rfl, rfl⟩ | ⟨ik', rfl⟩
    · simp only [Instr.sliceBounds, Sem.run_bind, Sem.run_pure, Result.andThen_ok, Int.toNat_natCast]; rfl
    · simp only [Instr.sliceBounds, Sem.run_bind, Sem.run_pure, Result.andThen_ok, hb2]; rfl
    · simp only [Instr.sliceBounds, Sem.run_bind, Sem.run_pure, Result.andThen_ok, hb3 _ _ rfl, Int.toNat_natCast]
    · simp only [Instr.sliceBounds, Sem.run_bind, Sem.run_pure, Result.andThen_ok, hb1, hb2]
  have hx : (⟨l.toArray⟩ : ByteArray).extract a.toNat b.toNat = ⟨y.toArray⟩ := by
    apply ByteArray.ext
    rw [ByteArray.data_extract, hy1]
    simp [List.drop_take]
  simp only [Instr.sliceAt, Instr.slice, Sem.run_bind, Sem.run_pure, Result.andThen_ok, run_underlying ht, hs, hbs, hx, Option.isSome_none, Bool.false_eq_true, if_false]
theorem sstrS (d : Option Nat) (t : TypeId) (l y : List UInt8) (lo hi : Option Value) (a b : Int) (ho : fetch B n p i κ = some (d, vS (Instr.sliceAt t (.string ⟨l.toArray⟩) lo hi none))) (ht : P.underlying t = some .string)
    (hl : (lo = none ∧ a = 0) ∨ ∃ ik, lo = some (.int ik a)) (hh : (hi = none ∧ b = l.length) ∨ ∃ ik, hi = some (.int ik b)) (hy : slc l a b = some y) (hk : Z (putk d (.string ⟨y.toArray⟩) κ) w) : Step P B n p i κ w Z :=
  runR ho (str_slice_run t l y lo hi a b ht hl hh hy) hk
end
/-! ### What may come up, reckoned quickly -/
def rdy1 (ops : Array Oper) (done : List Nat) (i : Nat) : Bool := !done.contains i && match ops[i]? with
  | some o => o.after.toList.all fun e => !Region.binds .any e || (Nat.blt e.on ops.size && done.contains e.on)
  | none => false
def rdyL (ops : Array Oper) (done : List Nat) : List Nat := (List.range ops.size).filter (rdy1 ops done)
theorem getD_fold : ∀ (done : List Nat) (l : Array Bool) (k : Nat) (d : Bool), k < l.size → (done.foldl (fun l i => l.setIfInBounds i true) l).getD k d = (done.contains k || l.getD k d)
  | [], l, k, d, h => by simp
  | i :: r, l, k, d, h => by
    rw [List.foldl_cons, getD_fold r _ k d (by simpa using h), List.contains_cons]
    by_cases e : k = i
    · subst e
      simp [h]
    · have e2 : (k == i) = false := by simpa using e
      rw [e2, Bool.false_or]
      congr 1
      rw [Array.getD_eq_getD_getElem?, Array.getD_eq_getD_getElem?, Array.getElem?_setIfInBounds_ne (fun h => e h.symm)]
theorem listed_get (m : Nat) (done : List Nat) (k : Nat) (d : Bool) (h : k < m) : (listedOf m done).getD k d = done.contains k := by
  unfold listedOf
  rw [getD_fold done _ k d (by simpa using h)]
  simp [h]
theorem listed_out (m : Nat) (done : List Nat) (k : Nat) (h : m ≤ k) (d : Bool) : (listedOf m done).getD k d = d := by
  have hs : (listedOf m done).size = m := by
    unfold listedOf
    have : ∀ (done : List Nat) (l : Array Bool), (done.foldl (fun l i => l.setIfInBounds i true) l).size = l.size := by
      intro done
      induction done with
      | nil => intro l; rfl
      | cons i r ih => intro l; rw [List.foldl_cons, ih]; simp
    rw [this]; simp
  rw [Array.getD_eq_getD_getElem?, Array.getElem?_eq_none (by omega)]
  rfl
theorem rdy_eq (ops : Array Oper) (done : List Nat) : Region.ready .any ops (listedOf ops.size done) = rdyL ops done := by
  unfold Region.ready rdyL
  refine List.filter_congr fun i hi => ?_
  have hi := List.mem_range.1 hi
  rw [listed_get _ _ _ _ hi]
  unfold rdy1
  congr 1
  rw [Array.getElem?_eq_getElem hi]
  simp only [Option.map_some, Option.getD_some]
  rw [← Array.all_toList]
  congr 1
  funext e
  congr 1
  by_cases h : e.on < ops.size
  · rw [listed_get _ _ _ _ h, show Nat.blt e.on ops.size = true from by simpa [Nat.blt_eq] using h, Bool.true_and]
  · rw [listed_out _ _ _ (by omega), show Nat.blt e.on ops.size = false from by rw [Bool.eq_false_iff]; intro hh; rw [Nat.blt_eq] at hh; exact h hh, Bool.false_and]
def edgeTo (o : Oper) (k : Nat) : Bool := o.after.toList.any fun e => Region.binds .any e && e.on == k
def statB (B : Code) (p : List Nat) : Bool := Region.noSelect (opsAt B p) && ((List.range (opsAt B p).size).all fun i => (List.range (opsAt B p).size).all fun j => Nat.beq j i || match (opsAt B p)[i]?, (opsAt B p)[j]? with
  | some oi, some oj => edgeTo oj i || edgeTo oi j || oi.apart (opsAt B p) oj
  | _, _ => true)
theorem free_of_stat {B : Code} {p : List Nat} (h : statB B p = true) {done : List Nat} {i : Nat} (hr : rdy1 (opsAt B p) done i = true) (hl : Nat.blt done.length (opsAt B p).size = true) : freeB B p done i = true := by
  unfold statB at h
  simp only [Bool.and_eq_true] at h
  obtain ⟨h1, h2⟩ := h
  have hi : i < (opsAt B p).size := by
    unfold rdy1 at hr
    simp only [Bool.and_eq_true] at hr
    have := hr.2
    split at this
    · rename_i o ho; exact (Array.getElem?_eq_some_iff.1 ho).1
    · cases this
  unfold freeB
  simp only [Bool.and_eq_true]
  refine ⟨h1, ?_, ?_, hl⟩
  · unfold Region.free
    rw [Array.getElem?_eq_getElem hi]
    simp only [List.all_eq_true, List.mem_range]
    intro j hj
    have h3 := List.all_eq_true.1 (List.all_eq_true.1 h2 i (List.mem_range.2 hi)) j (List.mem_range.2 hj)
    rw [Array.getElem?_eq_getElem hi, Array.getElem?_eq_getElem hj] at h3
    rw [Array.getElem?_eq_getElem hj, listed_get _ _ _ _ hj]
    simp only [Bool.or_eq_true] at h3 ⊢
    rcases h3 with h3 | (h3 | h3) | h3
    · exact .inl (.inl (by simpa using h3))
    · refine .inr (.inl ?_)
      unfold edgeTo at h3
      rwa [Array.any_toList] at h3
    · refine .inl (.inr ?_)
      unfold edgeTo at h3
      obtain ⟨e, he, h4⟩ := List.any_eq_true.1 h3
      simp only [Bool.and_eq_true, beq_iff_eq] at h4
      unfold rdy1 at hr
      rw [Array.getElem?_eq_getElem hi] at hr
      simp only [Bool.and_eq_true] at hr
      have h5 := List.all_eq_true.1 hr.2 e he
      simp only [h4.1, Bool.not_true, Bool.false_or, Bool.and_eq_true] at h5
      rw [← h4.2]
      exact h5.2
    · exact .inr (.inr h3)
  · rw [rdy_eq, List.contains_iff_mem]
    exact List.mem_filter.2 ⟨List.mem_range.2 hi, hr⟩

section
variable {P : Program} {B : Code} {Q : Exit → Act → World → Prop} [NPc Q] {J : Nat → Act → World → Prop} {n : Cx} {p : List Nat} {k : List It} {κ : Kn} {w : World} {fn : Func} {Rp : Ending → World → Prop} {w0 : World} {F0 : Nat → Prop} {m0 m : Mem} {σ : List Item}
/-- The beginning of a region that draws its order: S holds throughout. -/
theorem drawS (S : World → Prop) (H : St w0 F0 m0 m σ w) (hd : isDraw B p = true) (hm : P.follows .mixedOrders = true)
    (h : ∀ w1 : World, St w0 F0 m0 m σ w1 → D P B Q J n p k S [] κ w1) : R P B Q J n (.co p :: k) κ w :=
  drawR _ hd hm (h { w with drawn := w.drawn + 1 } (H.ex ⟨rfl, rfl, rfl, Nat.le_refl _, fun _ _ _ => rfl, Nat.le_succ _⟩))
variable {S : World → Prop} {done : List Nat} {i : Nat}
theorem stD2 (hr : (rdyL (opsAt B p) done == [i] && Nat.blt done.length (opsAt B p).size) = true) (hS : S w) (h : Step P B n p i κ w (fun κ' w' => D P B Q J n p k S (done ++ [i]) κ' w')) : D P B Q J n p k S done κ w := by
  simp only [Bool.and_eq_true, beq_iff_eq] at hr
  refine stD ?_ hS h
  unfold onlyB
  rw [rdy_eq, hr.1]
  simp [hr.2]
theorem allD2 (rs : List Nat) (hr : (rdyL (opsAt B p) done == rs && (!rs.isEmpty && Nat.blt done.length (opsAt B p).size)) = true) (hS : S w) (h : AllL (fun i => Step P B n p i κ w (fun κ' w' => D P B Q J n p k S (done ++ [i]) κ' w')) rs) : D P B Q J n p k S done κ w :=
  allD rs (by unfold readyB; rw [rdy_eq]; exact hr) hS h
theorem endD2 (hr : (rdyL (opsAt B p) done).isEmpty = true) (hS : S w) (h : R P B Q J n k κ w) : D P B Q J n p k S done κ w :=
  endD (by unfold doneB; rw [rdy_eq]; exact hr) hS h
def rdyB (B : Code) (p : List Nat) (done : List Nat) (i : Nat) : Bool := rdy1 (opsAt B p) done i && Nat.blt done.length (opsAt B p).size
theorem takeD2 {d : Option Nat} {s : Sem Next} {v : Value} (hst : statB B p = true) (hf : rdyB B p done i = true) (ho : fetch B n p i κ = some (d, s)) (hs : ∀ w', S w' → s.run P w' = .ok (.value v) w')
    (h : D P B Q J n p k S (done ++ [i]) (putk d v κ) w) : D P B Q J n p k S done κ w := by
  simp only [rdyB, Bool.and_eq_true] at hf
  exact takeD (free_of_stat hst hf.1 hf.2) ho hs h
def takeN2 (P : Program) (B : Code) (n : Cx) (p : List Nat) : List Nat → List Nat → Kn → Option (List Nat × Kn)
  | [], done, κ => some (done, κ)
  | i :: r, done, κ => cond (rdyB B p done i)
    (match (opsAt B p)[i]? with
      | none => none
      | some o => match wants κ (opsAt B p) o with
        | some false => cond (dok o.dst n.n) (takeN2 P B n p r (done ++ [i]) (putk o.dst undef κ)) none
        | some true => match fetch B n p i κ with
          | some (d, s) => match takeN.pureV P s with
            | some v => takeN2 P B n p r (done ++ [i]) (putk d v κ)
            | none => none
          | none => none
        | none => none) none
theorem takeN2_sound (hst : statB B p = true) : ∀ (is : List Nat) {done done' : List Nat} {κ κ' : Kn}, takeN2 P B n p is done κ = some (done', κ') → D P B Q J n p k S done' κ' w → D P B Q J n p k S done κ w
  | [], done, done', κ, κ', h, hD => by
    simp only [takeN2, Option.some.injEq, Prod.mk.injEq] at h
    obtain ⟨rfl, rfl⟩ := h
    exact hD
  | i :: r, done, done', κ, κ', h, hD => by
    simp only [takeN2] at h
    cases hf : rdyB B p done i with
    | false => simp [hf] at h
    | true =>
      simp only [hf, cond_true] at h
      have hfr : freeB B p done i = true := by
        simp only [rdyB, Bool.and_eq_true] at hf
        exact free_of_stat hst hf.1 hf.2
      cases ho : (opsAt B p)[i]? with
      | none => simp [ho] at h
      | some o =>
        simp only [ho] at h
        cases hw : wants κ (opsAt B p) o with
        | none => simp [hw] at h
        | some b =>
          cases b with
          | false =>
            simp only [hw] at h
            cases hdk : dok o.dst n.n with
            | false => simp [hdk] at h
            | true =>
              simp only [hdk, cond_true] at h
              exact takeD0 hfr ho (fun a ha => .inr ⟨wants_sound ha hw, rfl⟩) hdk (takeN2_sound hst r h hD)
          | true =>
            simp only [hw] at h
            cases hfe : fetch B n p i κ with
            | none => simp [hfe] at h
            | some ds =>
              obtain ⟨d, s⟩ := ds
              simp only [hfe] at h
              cases hv : takeN.pureV P s with
              | none => simp [hv] at h
              | some v =>
                simp only [hv] at h
                exact takeD hfr hfe (fun w' _ => pureV_run hv w') (takeN2_sound hst r h hD)
def segDN2 (P : Program) (B : Code) (n : Cx) (p : List Nat) (is ts done : List Nat) (κ : Kn) : Option (List Nat × Kn) :=
  match takeN2 P B n p is done κ with
  | some (done', κ') => match resK κ' ts with
    | some l => some (done', l)
    | none => none
  | none => none
theorem segD2 (hst : statB B p = true) (is done' : List Nat) (κ' : Kn) (h : segDN2 P B n p is (κ'.map Prod.fst) done κ = some (done', κ')) (hk : D P B Q J n p k S done' κ' w) : D P B Q J n p k S done κ w := by
  unfold segDN2 at h
  cases hs : takeN2 P B n p is done κ with
  | none => simp [hs] at h
  | some x =>
    obtain ⟨d1, κ1⟩ := x
    simp only [hs] at h
    cases hr : resK κ1 (κ'.map Prod.fst) with
    | none => simp [hr] at h
    | some l =>
      simp only [hr, Option.some.injEq, Prod.mk.injEq] at h
      obtain ⟨rfl, rfl⟩ := h
      exact takeN2_sound hst is hs ⟨hk.1, fun a ha => hk.2 a (ha.res hr)⟩
end
end Go.Proofs.YtbldeodchhfjfaaGreatDoor.K
