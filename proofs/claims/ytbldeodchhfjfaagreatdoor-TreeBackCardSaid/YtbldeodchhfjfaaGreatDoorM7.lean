/- Stores into elements of owned rows; maps of one's own. -/
import Derived.Test.YtbldeodchhfjfaaGreatDoorM5
import Derived.Laws.StructEq
import Derived.ChangeKeysEq
set_option linter.unusedVariables false
set_option linter.unusedSimpArgs false
set_option linter.unusedSectionVars false
namespace Go.Proofs.YtbldeodchhfjfaaGreatDoor.K
open Go Go.RowKit Go.Op

section
variable {α : Type} {r : Rep α} {m : Mem}
theorem Rows.setc {x' : α} {j : Nat} {v : Value} : ∀ {l : List α} {xs : List Value} {i : Nat} {x : α}, Rows r m xs l → l[i]? = some x → (∀ cs, r.im m cs x → r.im m (cs.set j v) x') → j < r.sz → Rows r m (xs.set (i * r.sz + j) v) (l.set i x')
  | [], _, i, x, _, h, _, _ => by simp at h
  | y :: l, xs, 0, x, ⟨cs, ys, h1, h2, h3⟩, h, hu, hj => by
    simp at h
    subst h
    have hl := r.len h2
    refine ⟨cs.set j v, ys, ?_, hu cs h2, h3⟩
    rw [h1, Nat.zero_mul, Nat.zero_add, List.set_append_left _ _ (by omega)]
  | y :: l, xs, i + 1, x, ⟨cs, ys, h1, h2, h3⟩, h, hu, hj => by
    have hl := r.len h2
    have ih := h3.setc (i := i) (by simpa using h) hu hj
    refine ⟨cs, ys.set (i * r.sz + j) v, ?_, h2, ih⟩
    rw [h1, List.set_append_right _ _ (by rw [hl, Nat.add_mul]; omega), hl, Nat.add_mul, show i * r.sz + 1 * r.sz + j - r.sz = i * r.sz + j by omega]
end
section
variable {P : Program} {B : Code} {n : Cx} {p : List Nat} {i : Nat} {κ : Kn} {w : World} {Z : Kn → World → Prop} {w0 : World} {F0 : Nat → Prop} {m0 m : Mem} {σ : List Item}
/-- A cell of an element of a row of one's own. -/
theorem stElS (d : Option Nat) {α : Type} {r : Rep α} (t : TypeId) (n' i' j q : Nat) (A : Option Addr) (c : Nat) (l : List α) (e : TypeId) (x x' : α) (v : Value) (ad : Addr) (H : St w0 F0 m0 m σ w) (hn : σ[n']? = some (rowI r e A c l)) (hx : l[i']? = some x) (hA : A = some ad)
    (ho : fetch B n p i κ = some (d, uS (Instr.storeAt t (.pointer (some (ad.add q))) v))) (hq : q = i' * r.sz + j) (ht : oneB P t = true) (hv : v.oneCell' = true) (hj : j < r.sz) (hu : ∀ cs, r.im m cs x → r.im m (cs.set j v) x')
    (hk : ∀ w1, St w0 F0 m0 m (σ.set n' (rowI r e A c (l.set i' x'))) w1 → Z (putk d undef κ) w1) : Step P B n p i κ w Z := by
  obtain ⟨F, ⟨⟨xs, h1, ho1⟩, hF⟩, h2, h3⟩ := H.upd n' hn
  have hlt := (List.getElem?_eq_some_iff.1 hx).1
  have hlen := h1.len
  have hm : i' * r.sz + j < xs.length := by
    rw [hlen]
    have : (i' + 1) * r.sz ≤ l.length * r.sz := Nat.mul_le_mul_right _ hlt
    rw [Nat.add_mul] at this
    omega
  subst hq
  refine stOwnR d t 0 e r.sz A l.length c xs ad (i' * r.sz + j) v ho ht hv ho1 hA hm ?_
  intro w1 hown hkp hz
  refine hk w1 (h3 w1 (rowI r e A c (l.set i' x')) F (hkp.mono (fun k _ hk => (hF k).2 hk.symm)) ⟨⟨_, h1.setc hx hu hj, by rw [List.length_set]; exact hown⟩, fun k => by rw [List.length_set]; exact hF k⟩ (fun k hk => .inl hk))

/-! ### Maps -/
/-- Keys that are told apart by their values. -/
structure Key (α : Type) [BEq α] where
  fk : α → Value
  td : TypeDesc
  same : ∀ a b : α, Instr.sameNow td (fk a) (fk b) = some (a == b)
  bits : ∀ a b : α, (a == b) = true → Instr.sameBits 10000 (fk b) (fk a) = true
  ref : ∀ a b : α, (a == b) = true → a = b
  chk : ∀ (P : Program) (w : World) (e : Bool) (t : TypeId) (a : α), P.underlying t = some td → (Instr.checkKey e 10000 t (fk a)).run P w = .ok () w
def mget {α β : Type} [BEq α] (l : List (α × β)) (k : α) : Option β := (l.find? (fun x => k == x.1)).map (·.2)
def mput {α β : Type} [BEq α] : List (α × β) → α → β → List (α × β)
  | [], k, v => [(k, v)]
  | x :: l, k, v => if k == x.1 then (k, v) :: l else x :: mput l k v
/-- A map of one's own: its entries, in the order in which they came. -/
def mapI {α β : Type} [BEq α] (K : Key α) (fv : β → Value) (g : Nat) (l : List (α × β)) : Item where
  P _ w F := (∃ es clock, w.heap[g]? = some (.map es clock) ∧ es.toList.map (fun e => (e.key, e.val)) = l.map (fun x => (K.fk x.1, fv x.2))) ∧ ∀ k, F k ↔ k = g
  loc := fun ⟨⟨es, c, h, h2⟩, hF⟩ hk => ⟨⟨es, c, (hk _ ((hF _).2 rfl)).trans h, h2⟩, hF⟩
  mono := fun _ h => h
  dom := fun ⟨⟨es, c, h, _⟩, hF⟩ k hk => by rw [hF] at hk; subst hk; exact blk_lt h
theorem findNow_ok {α β : Type} [BEq α] (K : Key α) (fv : β → Value) (k : α) : ∀ (l : List (α × β)) (es : List MapEntry) (i0 : Nat), es.map (fun e => (e.key, e.val)) = l.map (fun x => (K.fk x.1, fv x.2)) →
    Instr.findNow K.td (K.fk k) es i0 = some ((l.findIdx? (fun x => k == x.1)).bind fun j => (l[j]?).map fun x => (i0 + j, fv x.2))
  | [], es, i0, h => by
    have : es = [] := by simpa using h
    subst this
    rfl
  | x :: l, es, i0, h => by
    cases es with
    | nil => simp at h
    | cons e es =>
      simp only [List.map_cons, List.cons.injEq, Prod.mk.injEq] at h
      obtain ⟨⟨h1, h2⟩, h3⟩ := h
      unfold Instr.findNow
      rw [h1, K.same k x.1]
      cases hb : (k == x.1)
      · simp only []
        rw [findNow_ok K fv k l es (i0 + 1) h3, List.findIdx?_cons, hb]
        simp only [Bool.false_eq_true, if_false]
        cases l.findIdx? (fun x => k == x.1) with
        | none => rfl
        | some j => simp [Nat.add_assoc, Nat.add_comm 1 j]
      · simp only []
        rw [List.findIdx?_cons, hb]
        simp [h2]
theorem mget_idx {α β : Type} [BEq α] (k : α) : ∀ l : List (α × β), mget l k = (l.findIdx? (fun x => k == x.1)).bind fun j => (l[j]?).map (·.2)
  | [] => rfl
  | x :: l => by
    have ih := mget_idx k l
    unfold mget at ih ⊢
    rw [List.find?_cons, List.findIdx?_cons]
    cases hb : (k == x.1)
    · simp only [Bool.false_eq_true, if_false]
      rw [ih]
      cases l.findIdx? (fun x => k == x.1) <;> rfl
    · simp
theorem mput_idx {α β : Type} [BEq α] (k : α) (v : β) (hr : ∀ a b : α, (a == b) = true → a = b) : ∀ l : List (α × β), mput l k v = match l.findIdx? (fun x => k == x.1) with
    | some j => l.set j (k, v)
    | none => l ++ [(k, v)]
  | [] => rfl
  | x :: l => by
    have ih := mput_idx k v hr l
    unfold mput
    rw [List.findIdx?_cons]
    cases hb : (k == x.1)
    · simp only [Bool.false_eq_true, if_false]
      rw [ih]
      cases l.findIdx? (fun x => k == x.1) <;> rfl
    · simp
section
variable {α β : Type} [BEq α] {K : Key α} {fv : β → Value}
theorem St.mapAt (H : St w0 F0 m0 m σ w) (n' : Nat) {g : Nat} {l : List (α × β)} (hn : σ[n']? = some (mapI K fv g l)) : ∃ es clock, w.heap[g]? = some (.map es clock) ∧ es.toList.map (fun e => (e.key, e.val)) = l.map (fun x => (K.fk x.1, fv x.2)) := by
  obtain ⟨F, ⟨h1, _⟩, _⟩ := H.upd n' hn
  exact h1
def tupOk (ok : Bool) (v : Value) (b : Bool) : Value := if ok then .tuple #[v, .bool b] else v
theorem findKey_ok {l : List (α × β)} {es : List MapEntry} (kt : TypeId) (hk : P.underlying kt = some K.td) (h : es.map (fun e => (e.key, e.val)) = l.map (fun x => (K.fk x.1, fv x.2))) (k : α) :
    (Instr.findKey kt (K.fk k) es).run P w = .ok ((l.findIdx? (fun x => k == x.1)).bind fun j => (l[j]?).map fun x => (j, fv x.2)) w := by
  have h2 := findNow_ok K fv k l es 0 h
  simp only [Nat.zero_add] at h2
  unfold Instr.findKey
  rw [Sem.run_bind, run_underlying hk, Result.andThen_ok, h2]
  rfl
theorem getM {g : Nat} {es : Array MapEntry} {clock : Nat} (hb : w.heap[g]? = some (.map es clock)) : (getObj g).run P w = .ok (.map es clock) w := by simp [getObj, Sem.run, hb]
theorem setM {g : Nat} {es : Array MapEntry} {clock : Nat} (o : Obj) (hb : w.heap[g]? = some (.map es clock)) : (setObj g o).run P w = .ok () (w.putObj g o) := by simp [setObj, Sem.run, hb, World.putObj]
theorem look_run (t kt e g : Nat) (ok : Bool) (k : α) (z : β) (hz : (zeroValue e).run P w = .ok (fv z) w) (ht : P.underlying t = some (.map kt e)) (hk : P.underlying kt = some K.td) {l : List (α × β)} {es : Array MapEntry} {clock : Nat}
    (hg : w.heap[g]? = some (.map es clock)) (h : es.toList.map (fun e => (e.key, e.val)) = l.map (fun x => (K.fk x.1, fv x.2))) :
    (Instr.lookup t (.map (some g)) (K.fk k) ok).run P w = .ok (tupOk ok (fv ((mget l k).getD z)) (mget l k).isSome) w := by
  have h1 := findKey_ok (w := w) kt hk h k
  have h2 := K.chk P w es.isEmpty kt k hk
  unfold Instr.lookup
  simp only [Sem.run_bind, Sem.run_pure, Result.andThen_ok, run_underlying ht, getM hg, h2, h1, mget_idx]
  cases hf : l.findIdx? (fun x => k == x.1) with
  | none => cases ok <;> simp [hz, tupOk]
  | some j =>
    have hj : j < l.length := (List.findIdx?_eq_some_iff_getElem.1 hf).1
    cases ok <;> simp [List.getElem?_eq_getElem hj, tupOk]
theorem modify_map {l : List (α × β)} {es : List MapEntry} (h : es.map (fun e => (e.key, e.val)) = l.map (fun x => (K.fk x.1, fv x.2))) (j : Nat) (k : α) (v : β) (hj : j < l.length) :
    (es.modify j (fun e => { e with key := K.fk k, val := fv v })).map (fun e => (e.key, e.val)) = (l.set j (k, v)).map (fun x => (K.fk x.1, fv x.2)) := by
  apply List.ext_getElem?
  intro i
  have hi := congrArg (fun l => l[i]?) h
  simp only [List.getElem?_map] at hi ⊢
  rw [List.getElem?_modify, List.getElem?_set]
  by_cases e : j = i
  · subst e
    rw [List.getElem?_eq_getElem hj] at hi
    cases he : es[j]? with
    | none => rw [he] at hi; cases hi
    | some x => simp [hj]
  · rw [if_neg e, ← hi]
    cases es[i]? <;> simp [e]
theorem updM_run (t kt e g : Nat) (k : α) (v : β) (ht : P.underlying t = some (.map kt e)) (hk : P.underlying kt = some K.td) {l : List (α × β)} {es : Array MapEntry} {clock : Nat}
    (hg : w.heap[g]? = some (.map es clock)) (h : es.toList.map (fun e => (e.key, e.val)) = l.map (fun x => (K.fk x.1, fv x.2))) :
    ∃ es' clock', (Instr.mapUpdate t (.map (some g)) (K.fk k) (fv v)).run P w = .ok () (w.putObj g (.map es' clock')) ∧ es'.toList.map (fun e => (e.key, e.val)) = (mput l k v).map (fun x => (K.fk x.1, fv x.2)) := by
  have h1 := findKey_ok (w := w) kt hk h k
  have h2 := K.chk P w false kt k hk
  have h3 := mput_idx k v K.ref l
  unfold Instr.mapUpdate
  rw [Sem.run_bind, run_underlying ht, Result.andThen_ok]
  dsimp only
  rw [Sem.run_bind, getM hg, Result.andThen_ok]
  dsimp only
  rw [Sem.run_bind, h2, Result.andThen_ok, Sem.run_bind, h1, Result.andThen_ok]
  cases hf : l.findIdx? (fun x => k == x.1) with
  | none =>
    rw [hf] at h3
    refine ⟨es.push { key := K.fk k, val := fv v, born := clock }, clock + 1, setM _ hg, ?_⟩
    rw [h3]
    simp [h]
  | some j =>
    obtain ⟨hj, hkj, _⟩ := List.findIdx?_eq_some_iff_getElem.1 hf
    rw [hf] at h3
    have hjs : j < es.toList.length := by
      have := congrArg List.length h
      simp only [List.length_map] at this
      omega
    have hkey : (es.toList[j]).key = K.fk l[j].1 := by
      have := congrArg (fun l => l[j]?) h
      simp only [List.getElem?_map, List.getElem?_eq_getElem hj, List.getElem?_eq_getElem hjs, Option.map_some, Option.some.injEq, Prod.mk.injEq] at this
      exact this.1
    have hes : (es[j]?.map (·.key)).getD (K.fk k) = K.fk l[j].1 := by
      have : es[j]? = some es.toList[j] := by
        rw [← Array.getElem?_toList]; exact List.getElem?_eq_getElem hjs
      rw [this, ← hkey]
      rfl
    refine ⟨es.modify j (fun e => { e with key := K.fk k, val := fv v }), clock, ?_, ?_⟩
    · rw [Option.bind_some, List.getElem?_eq_getElem hj]
      dsimp only [Option.map_some]
      rw [Sem.run_bind, hes]
      have hb := K.bits k l[j].1 hkj
      rw [show (Instr.keyThatStays (K.fk l[j].1) (K.fk k)).run P w = .ok (K.fk k) w from by unfold Instr.keyThatStays; rw [if_pos hb]; rfl, Result.andThen_ok]
      exact setM _ hg
    · rw [h3, Array.toList_modify]
      exact modify_map h j k v hj
end
/-- m[k] -/
theorem lookS {α β : Type} [BEq α] {K : Key α} {fv : β → Value} (d : Option Nat) (t kt e n' g : Nat) (ok : Bool) (k : α) (z : β) (l : List (α × β)) (H : St w0 F0 m0 m σ w) (hn : σ[n']? = some (mapI K fv g l))
    (ho : fetch B n p i κ = some (d, vS (Instr.lookup t (.map (some g)) (K.fk k) ok))) (ht : P.underlying t = some (.map kt e)) (hk : P.underlying kt = some K.td) (hz : ∀ w, (zeroValue e).run P w = .ok (fv z) w)
    (hX : Z (putk d (tupOk ok (fv ((mget l k).getD z)) (mget l k).isSome) κ) w) : Step P B n p i κ w Z := by
  obtain ⟨es, clock, h1, h2⟩ := H.mapAt n' hn
  exact runR ho (vS_run (look_run t kt e g ok k z (hz w) ht hk h1 h2)) hX
/-- m[k] = v -/
theorem mputS {α β : Type} [BEq α] {K : Key α} {fv : β → Value} (d : Option Nat) (t kt e n' g : Nat) (k : α) (v : β) (l : List (α × β)) (H : St w0 F0 m0 m σ w) (hn : σ[n']? = some (mapI K fv g l))
    (ho : fetch B n p i κ = some (d, uS (Instr.mapUpdate t (.map (some g)) (K.fk k) (fv v)))) (ht : P.underlying t = some (.map kt e)) (hk : P.underlying kt = some K.td)
    (hX : ∀ w1, St w0 F0 m0 m (σ.set n' (mapI K fv g (mput l k v))) w1 → Z (putk d undef κ) w1) : Step P B n p i κ w Z := by
  obtain ⟨F, ⟨⟨es, clock, h1, h2⟩, hF⟩, h3, h4⟩ := H.upd n' hn
  obtain ⟨es', clock', h5, h6⟩ := updM_run t kt e g k v ht hk h1 h2
  refine skipR ho (uS_run h5) (hX _ ?_)
  exact h4 _ (mapI K fv g (mput l k v)) (fun k => k = g) ((kp_putObj w g _).mono (fun k _ e => (hF k).2 e)) ⟨⟨es', clock', World.putObj_heap_same (blk_lt h1), h6⟩, fun _ => Iff.rfl⟩ (fun k e => .inl ((hF k).2 e))
/-- make(map..) -/
theorem mkmS {α β : Type} [BEq α] (K : Key α) (fv : β → Value) (d : Option Nat) (t : TypeId) (H : St w0 F0 m0 m σ w) (ho : fetch B n p i κ = some (d, vS (Instr.makeMap t none)))
    (hX : ∀ g w1, St w0 F0 m0 m (mapI K fv g [] :: σ) w1 → Z (putk d (.map (some g)) κ) w1) : Step P B n p i κ w Z := by
  refine runR ho (vS_run (show (Instr.makeMap t none).run P w = .ok (.map (some w.heap.size)) (w.alloc (.map #[] 0)) from rfl)) (hX w.heap.size _ ?_)
  exact H.add (ex_allocO w _) (j := mapI K fv w.heap.size []) (G := fun k => k = w.heap.size) ⟨⟨#[], 0, World.alloc_heap_new w _, rfl⟩, fun _ => Iff.rfl⟩ (fun k e => by omega)
theorem le63 {l c : Nat} (h : l ≤ c ∧ c ≤ maxLen) : l ≤ 9223372036854775807 := Nat.le_trans h.1 h.2
/-! []byte("..") -/
theorem litc_run {P : Program} {w : World} (t e g : Nat) (cs : Array Value) (n' : Nat) (ht : P.underlying t = some (.slice e)) (he : P.underlying e = some (.int .u8)) (hg : w.heap[g]? = some (.cells cs e (0, 0))) :
    (convert t t (.slice (some ⟨g, 0, none⟩) n' n')).run P w = .ok (.slice (some ⟨g, 0, none⟩) n' n') (w.freeze ⟨g, cs.size, none⟩ 1) := by
  unfold convert
  simp only [Sem.run_bind, run_underlying ht, run_underlying he, Result.andThen_ok, beq_self_eq_true, markStringish]
  have hs : (shape g).run P w = .ok (some (e, cs.size)) w := by simp [shape, Sem.run, World.shape?, hg]
  simp only [hs, Result.andThen_ok, run_freeze, Sem.run_pure]
theorem frz_blk {w : World} {g : Nat} {cs : Array Value} {e n : Nat} (hg : w.heap[g]? = some (.cells cs e (0, 0))) : (w.freeze ⟨g, n, none⟩ 1).heap[g]? = some (.cells cs e (n, n + 1)) := by
  simp [World.freeze, Array.getElem?_modify, hg]
theorem frz_kp (w : World) (g n : Nat) : Kp (fun k => k = g) w (w.freeze ⟨g, n, none⟩ 1) := by
  refine ⟨rfl, rfl, rfl, by simp [World.freeze], fun k _ hk => ?_, by rw [freeze_drawn]; exact Nat.le_refl _⟩
  simp only [World.freeze, Nat.one_ne_zero, if_false, Array.getElem?_modify]
  rw [if_neg (fun e => hk e.symm)]
theorem litcS (d : Option Nat) (t e n' g : Nat) (l : List UInt8) (H : St w0 F0 m0 m σ w) (hn : σ[n']? = some (blkI g (bs l) e)) (ho : fetch B n p i κ = some (d, vS (convert t t (.slice (some ⟨g, 0, none⟩) l.length l.length)))) (ht : P.underlying t = some (.slice e)) (he : P.underlying e = some (.int .u8)) (hl : l.length ≤ maxLen)
    (hk : ∀ m1 w1, Sub m m1 → SlI rU8 m1 (some ⟨g, 0, none⟩) l.length l → St w0 F0 m0 m1 (σ.eraseIdx n') w1 → Z (putk d (.slice (some ⟨g, 0, none⟩) l.length l.length) κ) w1) : Step P B n p i κ w Z := by
  obtain ⟨F, h1, h2, h3⟩ := (H.pull n' hn).upd 0 rfl
  have hb := frz_blk (n := (bs l).toArray.size) h1.1
  have H1 := h3 _ (objI g _) (fun k => k = g) ((frz_kp w g (bs l).toArray.size).mono (fun k _ e => (h1.2 k).2 e)) ⟨hb, fun _ => Iff.rfl⟩ (fun k e => .inl ((h1.2 k).2 e))
  obtain ⟨F2, m1, g1, g2, g3, g4⟩ := H1.fix0
  refine runR ho (vS_run (litc_run t e g _ l.length ht he h1.1)) (hk m1 _ g2 ⟨Nat.le_refl _, hl, bs l, Rows.u8.2 rfl, ?_⟩ g4)
  intro j v hj
  refine ⟨_, rfl, ?_⟩
  have hb2 := (g3 g ((g1.2 _).2 rfl)).trans g1.1
  rw [Addr.add_lit, Nat.zero_add]
  simp only [mc, hb2]
  simpa using hj
/-! flat structs compared -/
def eqSc (d : Option TypeDesc) (x y : Value) : Option Bool := match d, x, y with
  | some (.int _), .int k a, .int k' b => if k = k' then some (a == b) else none
  | some .bool, .bool a, .bool b => some (a == b)
  | some .string, .string a, .string b => some (a.toList == b.toList)
  | _, _, _ => none
def eqFs (P : Program) (xs ys : Array Value) : List Field → Option Bool
  | [] => some true
  | f :: fs => if f.name = "_" then none else match P.plainKey f.type, xs[f.offset]?, ys[f.offset]? with
    | true, some x, some y => match eqSc (P.underlying f.type) x y with
      | some c => match eqFs P xs ys fs with
        | some r => some (c && r)
        | none => none
      | none => none
    | _, _, _ => none
theorem eqSc_ok {P : Program} {w : World} {t : TypeId} {x y : Value} {b : Bool} (d : Nat) (h : eqSc (P.underlying t) x y = some b) : (Op.equalIn (d + 1) t x y).run P w = .ok b w := by
  unfold eqSc at h
  split at h
  · rename_i k1 k a k' b' e
    split at h
    · rename_i e2
      subst e2
      cases h
      exact run_equalIn_int w d t k _ a b' e
    · cases h
  · cases h
    exact run_equalIn_bool' w d t _ _ (by assumption)
  · cases h
    exact run_equalIn_string w d t _ _ (by assumption)
  · cases h
theorem eqFs_ok {P : Program} {w : World} {xs ys : Array Value} (d : Nat) : ∀ {fs : List Field} {b : Bool}, eqFs P xs ys fs = some b → (Op.eqFields (d + 1) xs ys fs).run P w = .ok b w
  | [], b, h => by cases h; rfl
  | f :: fs, b, h => by
    unfold eqFs at h
    split at h
    · cases h
    · rename_i hn
      split at h
      · rename_i x y hk hx hy
        split at h
        · rename_i c hc
          split at h
          · rename_i r hr
            cases h
            unfold Op.eqFields
            rw [if_pos hn]
            simp only [Sem.run_bind, run_part_plain w hk hx, run_part_plain w hk hy, Result.andThen_ok, eqSc_ok d hc]
            cases c
            · rfl
            · simp only [Bool.not_true, Bool.false_eq_true, if_false, Bool.true_and]
              exact eqFs_ok d hr
          · cases h
        · cases h
      · cases h
def eqSem (op : BinOp) (t : TypeId) (x y : Operand) (a b : Value) : Sem Next := vS (do eqGuard op t x y a b; binOp op t a b)
theorem eqAgg_run {P : Program} {w : World} (t : TypeId) (x y : Operand) (xs ys : Array Value) (b b' : Bool) (h : eqFs P xs ys (P.fieldsOf t).toList = some b) (hb : b = b') (hg : P.eqGuardType P.depth t = false) (ht : P.underlying t = some (.struct (P.fieldsOf t))) (hp : P.stoodInHeld t = false) :
    (eqSem .eql t x y (.agg xs) (.agg ys)).run P w = .ok (.value (.bool b')) w := by
  subst hb
  refine vS_run ?_
  rw [Sem.run_bind, run_eqGuard_agg w .eql t x y xs ys hg, Result.andThen_ok, run_eql_struct, run_equalIn_agg w 9999 t xs ys ht hp, eqFs_ok 9998 h]
  rfl
theorem neAgg_run {P : Program} {w : World} (t : TypeId) (x y : Operand) (xs ys : Array Value) (b b' : Bool) (h : eqFs P xs ys (P.fieldsOf t).toList = some b) (hb : b = b') (hg : P.eqGuardType P.depth t = false) (ht : P.underlying t = some (.struct (P.fieldsOf t))) (hp : P.stoodInHeld t = false) :
    (eqSem .neq t x y (.agg xs) (.agg ys)).run P w = .ok (.value (.bool (!b'))) w := by
  subst hb
  refine vS_run ?_
  rw [Sem.run_bind, run_eqGuard_agg w .neq t x y xs ys hg, Result.andThen_ok, run_neq_struct, run_equalIn_agg w 9999 t xs ys ht hp, eqFs_ok 9998 h]
  rfl
/-! keys, values -/
abbrev fvI64 : Int → Value := fun x => .int .i64 x
abbrev fvStr : List UInt8 → Value := fun x => .string ⟨x.toArray⟩
abbrev fvBool : Bool → Value := fun x => .bool x
def kI64 : Key Int where
  fk x := .int .i64 x
  td := .int .i64
  same _ _ := rfl
  bits a b h := by rw [eq_of_beq h]; simp [Instr.sameBits]
  ref a b h := eq_of_beq h
  chk P w e t a ht := by unfold Instr.checkKey; rw [Sem.run_bind, run_underlying ht, Result.andThen_ok]; rfl
theorem bytes_beq (a b : List UInt8) : ((⟨a.toArray⟩ : ByteArray) == ⟨b.toArray⟩) = (a == b) := by
  show (a.toArray == b.toArray) = (a == b)
  rw [Bool.eq_iff_iff, beq_iff_eq, beq_iff_eq]
  constructor
  · intro h
    have := congrArg (fun x : Array UInt8 => x.toList) h
    simpa using this
  · intro h; rw [h]
def kStr : Key (List UInt8) where
  fk x := .string ⟨x.toArray⟩
  td := .string
  same a b := by show some _ = some _; rw [bytes_beq]
  bits a b h := by rw [eq_of_beq h]; show ((⟨b.toArray⟩ : ByteArray) == ⟨b.toArray⟩) = true; rw [bytes_beq]; simp
  ref a b h := eq_of_beq h
  chk P w e t a ht := by unfold Instr.checkKey; rw [Sem.run_bind, run_underlying ht, Result.andThen_ok]; rfl
end
end Go.Proofs.YtbldeodchhfjfaaGreatDoor.K
