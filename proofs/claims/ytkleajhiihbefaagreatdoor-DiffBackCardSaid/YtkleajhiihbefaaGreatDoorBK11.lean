/- Texts in one: XDiffBack. -/
import Derived.Test.YtkleajhiihbefaaGreatDoorBK10
set_option linter.unusedVariables false
set_option linter.unusedSimpArgs false
set_option linter.unusedSectionVars false
namespace Go.Proofs.YtkleajhiihbefaaGreatDoor.F
open Go Go.RowKit Go.Proofs.YtkleajhiihbefaaGreatDoor.K Go.Proofs.YtkleajhiihbefaaGreatDoor.K.E
theorem so_uniq {α : Type} {lt : α → α → Bool} (irr : ∀ x, lt x x = false) (tr : ∀ x y z, lt x y = true → lt y z = true → lt x z = true) : ∀ {a b : List α}, a.Pairwise (fun x y => lt x y = true) → b.Pairwise (fun x y => lt x y = true) → (∀ x, x ∈ a ↔ x ∈ b) → a = b
 | [], [], _, _, _ => rfl
 | [], y :: b, _, _, h => absurd ((h y).2 (List.mem_cons_self ..)) (by simp)
 | x :: a, [], _, _, h => absurd ((h x).1 (List.mem_cons_self ..)) (by simp)
 | x :: a, y :: b, h1, h2, h => by
  rw [List.pairwise_cons] at h1 h2
  have hxy : x = y := by
   rcases List.mem_cons.1 ((h x).1 (List.mem_cons_self ..)) with e | hx
   ·exact e
   ·rcases List.mem_cons.1 ((h y).2 (List.mem_cons_self ..)) with e | hy
    ·exact e.symm
    ·have := tr x y x (h1.1 y hy) (h2.1 x hx)
     rw [irr] at this; cases this
  subst hxy
  have hxa : x ∉ a := fun hm => by have := h1.1 x hm; rw [irr] at this; cases this
  have hxb : x ∉ b := fun hm => by have := h2.1 x hm; rw [irr] at this; cases this
  rw [so_uniq irr tr h1.2 h2.2 fun z => ⟨fun hz => by
   rcases List.mem_cons.1 ((h z).1 (List.mem_cons_of_mem _ hz)) with e | e
   ·subst e; exact absurd hz hxa
   ·exact e, fun hz => by
   rcases List.mem_cons.1 ((h z).2 (List.mem_cons_of_mem _ hz)) with e | e
   ·subst e; exact absurd hz hxb
   ·exact e⟩]
abbrev Parts := List (List UInt8)
def pL (a b : Parts) : Bool := lexB ltB a b
theorem pL_sto : STO pL := ltB_sto.lex
theorem pL_app (x y : Parts) : ∀ p : Parts, pL (p ++ x) (p ++ y) = pL x y
 | [] => rfl
 | a :: p => by
  have ih := pL_app x y p
  unfold pL at ih ⊢
  show (ltB a a || (!ltB a a && lexB ltB (p ++ x) (p ++ y))) = _
  rw [ltB_sto.irr, ih]
  rfl
theorem pL_pre {p q : Parts} (h : q ≠ []) : pL p (p ++ q) = true := by
 have := pL_app [] q p
 rw [List.append_nil] at this
 rw [this]
 cases q with
 | nil => exact absurd rfl h
 | cons a q => rfl
theorem pL_one (s t : List UInt8) (x y : Parts) (h : pL [s] [t] = true) : pL (s :: x) (t :: y) = true := by
 have h1 : ltB s t = true := by
  have h2 : (ltB s t || (!ltB t s && lexB ltB [] [])) = true := h
  cases h3 : ltB s t with
  | true => rfl
  | false => rw [h3] at h2; simp [lexB] at h2
 show (ltB s t || _) = true
 rw [h1]
 rfl
def nL (a b : TTreeNamed) : Bool := pL a.f_parts b.f_parts
theorem nL_irr (x : TTreeNamed) : nL x x = false := pL_sto.irr _
theorem nL_tr (x y z : TTreeNamed) (h : nL x y = true) (h' : nL y z = true) : nL x z = true := pL_sto.tr _ _ _ h h'
abbrev Srt (S : List TTreeNamed) : Prop := S.Pairwise (fun x y => nL x y = true)
def below (S : List TTreeNamed) (p : Parts) : List TTreeNamed := S.filter (fun n => decide (p <+: n.f_parts ∧ n.f_parts ≠ p))
def kidsOf (S : List TTreeNamed) (p : Parts) : List TTreeNamed := S.filter (fun n => decide (n.f_parts.dropLast = p ∧ n.f_parts ≠ []))
theorem mem_below {S : List TTreeNamed} {p : Parts} {n : TTreeNamed} : n ∈ below S p ↔ n ∈ S ∧ p <+: n.f_parts ∧ n.f_parts ≠ p := by
 unfold below
 rw [List.mem_filter, decide_eq_true_eq]
theorem mem_kidsOf {S : List TTreeNamed} {p : Parts} {n : TTreeNamed} : n ∈ kidsOf S p ↔ n ∈ S ∧ n.f_parts.dropLast = p ∧ n.f_parts ≠ [] := by
 unfold kidsOf
 rw [List.mem_filter, decide_eq_true_eq]
theorem kid_parts {n : TTreeNamed} {p : Parts} (h : n.f_parts.dropLast = p) (h2 : n.f_parts ≠ []) : ∃ s, n.f_parts = p ++ [s] := ⟨n.f_parts.getLast h2, by rw [← h, List.dropLast_concat_getLast]⟩
structure Cl (S : List TTreeNamed) : Prop where
 so : Srt S
 up : ∀ n ∈ S, n.f_parts.dropLast = [] ∨ ∃ m ∈ S, m.f_parts = n.f_parts.dropLast
section
variable {S : List TTreeNamed} (C : Cl S)
include C
theorem Cl.inj {m n : TTreeNamed} (hm : m ∈ S) (hn : n ∈ S) (h : m.f_parts = n.f_parts) : m = n := by
 have key : ∀ {S : List TTreeNamed}, Srt S → m ∈ S → n ∈ S → m = n := by
  intro S
  induction S with
  | nil => intro _ h; cases h
  | cons x S ih =>
   intro hs h1 h2
   rw [Srt, List.pairwise_cons] at hs
   rcases List.mem_cons.1 h1 with e1 | h1 <;> rcases List.mem_cons.1 h2 with e2 | h2
   ·rw [e1, e2]
   ·have := hs.1 n h2
    rw [← e1] at this
    unfold nL at this
    rw [h, pL_sto.irr] at this
    cases this
   ·have := hs.1 m h1
    rw [← e2] at this
    unfold nL at this
    rw [h, pL_sto.irr] at this
    cases this
   ·exact ih hs.2 h1 h2
 exact key C.so hm hn
theorem Cl.anc {p : Parts} {s : List UInt8} : ∀ (k : Nat) (r : Parts), r.length = k → ∀ x ∈ S, x.f_parts = p ++ s :: r → ∃ c ∈ S, c.f_parts = p ++ [s]
 | 0, r, hr, x, hx, h => by
  have : r = [] := List.eq_nil_of_length_eq_zero hr
  subst this
  exact ⟨x, hx, h⟩
 | k + 1, r, hr, x, hx, h => by
  have hne : r ≠ [] := fun e => by subst e; cases hr
  have e1 : x.f_parts.dropLast = p ++ s :: r.dropLast := by
   rw [h, List.dropLast_append_of_ne_nil (by simp), List.dropLast_cons_of_ne_nil hne]
  rcases C.up x hx with h0 | ⟨m, hm, h1⟩
  ·rw [e1] at h0; simp at h0
  ·exact Cl.anc k r.dropLast (by rw [List.length_dropLast]; omega) m hm (by rw [h1, e1])
theorem Cl.below_eq (p : Parts) : below S p = (kidsOf S p).flatMap (fun c => c :: below S c.f_parts) := by
 refine so_uniq nL_irr nL_tr (C.so.filter _) ?_ ?_
 ·rw [List.pairwise_flatMap]
  refine ⟨fun c hc => ?_, ?_⟩
  ·rw [List.pairwise_cons]
   refine ⟨fun x hx => ?_, C.so.filter _⟩
   obtain ⟨_, ⟨q, hq⟩, hne⟩ := mem_below.1 hx
   unfold nL
   rw [← hq]
   exact pL_pre fun e => hne (by rw [← hq, e, List.append_nil])
  ·have hk : (kidsOf S p).Pairwise (fun x y => nL x y = true) := C.so.filter _
   refine List.Pairwise.imp_of_mem ?_ hk
   intro c d hc hd hcd x hx y hy
   obtain ⟨_, c1, c2⟩ := mem_kidsOf.1 hc
   obtain ⟨_, d1, d2⟩ := mem_kidsOf.1 hd
   obtain ⟨s, hs⟩ := kid_parts c1 c2
   obtain ⟨t, ht⟩ := kid_parts d1 d2
   have hst : pL [s] [t] = true := by
    unfold nL at hcd
    rw [hs, ht, pL_app] at hcd
    exact hcd
   have hx' : ∃ q, x.f_parts = p ++ s :: q := by
    rcases List.mem_cons.1 hx with e | hx
    ·exact ⟨[], by rw [e, hs]⟩
    ·obtain ⟨_, ⟨q, hq⟩, _⟩ := mem_below.1 hx
     exact ⟨q, by rw [← hq, hs, List.append_assoc]; rfl⟩
   have hy' : ∃ q, y.f_parts = p ++ t :: q := by
    rcases List.mem_cons.1 hy with e | hy
    ·exact ⟨[], by rw [e, ht]⟩
    ·obtain ⟨_, ⟨q, hq⟩, _⟩ := mem_below.1 hy
     exact ⟨q, by rw [← hq, ht, List.append_assoc]; rfl⟩
   obtain ⟨q, hq⟩ := hx'
   obtain ⟨r, hr⟩ := hy'
   unfold nL
   rw [hq, hr, pL_app]
   exact pL_one s t q r hst
 ·intro x
  rw [List.mem_flatMap]
  constructor
  ·intro hx
   obtain ⟨h1, ⟨q, hq⟩, h3⟩ := mem_below.1 hx
   cases q with
   | nil => exact absurd (by rw [← hq, List.append_nil]) h3
   | cons s r =>
    obtain ⟨c, hc, hcp⟩ := C.anc r.length r rfl x h1 hq.symm
    refine ⟨c, mem_kidsOf.2 ⟨hc, by rw [hcp, List.dropLast_concat], by rw [hcp]; simp⟩, ?_⟩
    by_cases hr : r = []
    ·subst hr
     rw [C.inj h1 hc (by rw [hcp, ← hq])]
     exact List.mem_cons_self ..
    ·refine List.mem_cons_of_mem _ (mem_below.2 ⟨h1, ⟨r, by rw [hcp, ← hq, List.append_assoc]; rfl⟩, fun e => hr ?_⟩)
     rw [hcp, ← hq] at e
     have := congrArg List.length e
     simp at this
     exact this
  ·rintro ⟨c, hc, hx⟩
   obtain ⟨c0, c1, c2⟩ := mem_kidsOf.1 hc
   obtain ⟨s, hs⟩ := kid_parts c1 c2
   rcases List.mem_cons.1 hx with e | hx
   ·subst e
    refine mem_below.2 ⟨c0, ⟨[s], hs.symm⟩, fun e => ?_⟩
    have := congrArg List.length (hs.symm.trans e)
    simp at this
   ·obtain ⟨h1, ⟨q, hq⟩, _⟩ := mem_below.1 hx
    refine mem_below.2 ⟨h1, ⟨s :: q, by rw [← hq, hs, List.append_assoc]; rfl⟩, fun e => ?_⟩
    have := congrArg List.length (hq.trans e)
    rw [hs] at this
    simp at this
omit C in
theorem Cl.below_nil (hn : ∀ n ∈ S, n.f_parts ≠ []) : below S [] = S := by
 unfold below
 rw [List.filter_eq_self]
 intro n h
 rw [decide_eq_true_eq]
 exact ⟨List.nil_prefix, hn n h⟩
end
end Go.Proofs.YtkleajhiihbefaaGreatDoor.F
namespace Go.Proofs.YtkleajhiihbefaaGreatDoor.F
open Go Go.RowKit Go.Proofs.YtkleajhiihbefaaGreatDoor.K Go.Proofs.YtkleajhiihbefaaGreatDoor.K.E
def bas (x : TApiNode) : TApiNode := { Kind := x.Kind, Mode := x.Mode, Uid := x.Uid, Gid := x.Gid, Time := x.Time, Size := x.Size, Data := x.Data, Target := x.Target, Dev := x.Dev, Attrs := x.Attrs, Kids := [], Parent := 0, Links := 0 }
def kidR (T : List TTreeNamed) (inos : Inos) (K : List UInt8) : List TApiKid := (T.filter (fun c => decide (upP c.f_path = K))).map (fun c => ({ Name := lastO c, Ino := (mget inos c.f_of).getD 0 } : TApiKid))
def ndR (nd : List UInt8 → TApiNode) (rn : TApiNode) (K : List UInt8) : TApiNode := if K = [] then rn else nd K
structure FI (nd : List UInt8 → TApiNode) (rn : TApiNode) (T' T : List TTreeNamed) (inos : Inos) (b : List TApiNode) : Prop where
 rt : mget inos [] = some 0
 key : ∀ K v, mget inos K = some v → K = [] ∨ ∃ n ∈ T', n.f_of = K
 all : ∀ n ∈ T', ∃ v, mget inos n.f_of = some v
 upk : ∀ n ∈ T, ∃ v, mget inos (upP n.f_path) = some v
 inj : ∀ K K' v, mget inos K = some v → mget inos K' = some v → K = K'
 rng : ∀ K v, mget inos K = some v → 0 ≤ v ∧ v < b.length
 nod : ∀ K v, mget inos K = some v → ∃ x, b[v.toNat]? = some x ∧ bas x = bas (ndR nd rn K) ∧ x.Kids = kidR T inos K
 ono : ∀ j : Nat, j < b.length → ∃ K, mget inos K = some (j : Int)
section
variable {nd : List UInt8 → TApiNode} {rn : TApiNode} {T' T : List TTreeNamed} {inos : Inos} {b : List TApiNode}
theorem FI.c1 (H : FI nd rn T T inos b) (n : TTreeNamed) (hof : n.f_of ≠ []) (hk : (nd n.f_of).Kids = []) : FI nd rn (T ++ [n]) T (F.c1 nd inos b n).1 (F.c1 nd inos b n).2.2 ∧ mget (F.c1 nd inos b n).1 n.f_of = some (F.c1 nd inos b n).2.1 ∧ ∀ K v, mget inos K = some v → mget (F.c1 nd inos b n).1 K = some v := by
 unfold F.c1
 cases hK : mget inos n.f_of with
 | some v0 =>
  simp only [Option.isSome_some, if_true, Option.getD_some]
  refine ⟨⟨H.rt, fun K v h => (H.key K v h).imp id fun ⟨m, hm, e⟩ => ⟨m, List.mem_append_left _ hm, e⟩, fun m hm => ?_, H.upk, H.inj, H.rng, H.nod, H.ono⟩, hK, fun K v h => h⟩
  rcases List.mem_append.1 hm with h | h
  ·exact H.all m h
  ·rw [List.mem_singleton.1 h]; exact ⟨v0, hK⟩
 | none =>
  simp only [Option.isSome_none, Bool.false_eq_true, if_false]
  have hput : ∀ K, mget (mput inos n.f_of (b.length : Int)) K = if K = n.f_of then some (b.length : Int) else mget inos K := fun K => mget_put _ _ _ _
  have mono : ∀ K v, mget inos K = some v → mget (mput inos n.f_of (b.length : Int)) K = some v := fun K v h => by
   rw [hput, if_neg fun e => by rw [e, hK] at h; cases h]; exact h
  refine ⟨⟨mono _ _ H.rt, fun K v h => ?_, fun m hm => ?_, fun m hm => ?_, fun K K' v h h' => ?_, fun K v h => ?_, fun K v h => ?_, fun j hj => ?_⟩, by rw [hput, if_pos rfl], mono⟩
  ·rw [hput] at h
   split at h
   ·rename_i e; exact Or.inr ⟨n, List.mem_append_right _ (List.mem_singleton.2 rfl), e.symm⟩
   ·exact (H.key K v h).imp id fun ⟨m, hm, e⟩ => ⟨m, List.mem_append_left _ hm, e⟩
  ·rcases List.mem_append.1 hm with h | h
   ·obtain ⟨v, hv⟩ := H.all m h; exact ⟨v, mono _ _ hv⟩
   ·rw [List.mem_singleton.1 h]; exact ⟨_, by rw [hput, if_pos rfl]⟩
  ·obtain ⟨v, hv⟩ := H.upk m hm; exact ⟨v, mono _ _ hv⟩
  ·rw [hput] at h h'
   by_cases e : K = n.f_of <;> by_cases e' : K' = n.f_of
   ·rw [e, e']
   ·rw [if_pos e] at h; rw [if_neg e'] at h'
    cases h
    have := (H.rng _ _ h').2
    omega
   ·rw [if_neg e] at h; rw [if_pos e'] at h'
    cases h'
    have := (H.rng _ _ h).2
    omega
   ·rw [if_neg e] at h; rw [if_neg e'] at h'
    exact H.inj _ _ _ h h'
  ·rw [hput] at h
   rw [List.length_append, List.length_singleton]
   split at h
   ·cases h; omega
   ·have := H.rng K v h; omega
  ·have hmap : ∀ K, kidR T (mput inos n.f_of (b.length : Int)) K = kidR T inos K := fun K => by
    unfold kidR
    refine List.map_congr_left fun c hc => ?_
    obtain ⟨v', hv'⟩ := H.all c (List.mem_filter.1 hc).1
    rw [mono _ _ hv', hv']
   rw [hput] at h
   rw [hmap]
   split at h
   ·rename_i e
    cases h
    subst e
    refine ⟨nd n.f_of, by rw [Int.toNat_natCast, List.getElem?_append_right (Nat.le_refl _), Nat.sub_self]; rfl, by unfold ndR; rw [if_neg hof], ?_⟩
    rw [hk]
    unfold kidR
    rw [List.filter_eq_nil_iff.2 fun c hc => by
     rw [decide_eq_true_eq]
     intro e
     obtain ⟨v', hv'⟩ := H.upk c hc
     rw [e, hK] at hv'
     cases hv']
    rfl
   ·obtain ⟨x, h1, h2⟩ := H.nod K v h
    have := H.rng K v h
    exact ⟨x, by rw [List.getElem?_append_left (by omega)]; exact h1, h2⟩
  ·rw [List.length_append, List.length_singleton] at hj
   by_cases e : j = b.length
   ·subst e; exact ⟨n.f_of, by rw [hput, if_pos rfl]⟩
   ·obtain ⟨K, h⟩ := H.ono j (by omega)
    exact ⟨K, mono _ _ h⟩
theorem FI.c2 (H : FI nd rn T' T inos b) (n : TTreeNamed) {ino p : Int} (hi : mget inos n.f_of = some ino) (hp : mget inos (upP n.f_path) = some p) : FI nd rn T' (T ++ [n]) inos (F.c2 (inos, ino, b) n) := by
 have hpar : parO inos n = p := by unfold parO; rw [hp]; rfl
 unfold F.c2
 simp only [hpar]
 have hpr := H.rng _ _ hp
 refine ⟨H.rt, H.key, H.all, fun m hm => ?_, H.inj, fun K v h => by rw [List.length_set]; exact H.rng K v h, fun K v h => ?_, fun j hj => H.ono j (by rw [List.length_set] at hj; exact hj)⟩
 ·rcases List.mem_append.1 hm with h | h
  ·exact H.upk m h
  ·rw [List.mem_singleton.1 h]; exact ⟨p, hp⟩
 ·obtain ⟨x, h1, h2, h3⟩ := H.nod K v h
  have hr := H.rng K v h
  have hkid : kidR (T ++ [n]) inos K = kidR T inos K ++ (if upP n.f_path = K then [({ Name := lastO n, Ino := ino } : TApiKid)] else []) := by
   unfold kidR
   rw [List.filter_append, List.map_append]
   congr 1
   by_cases e : upP n.f_path = K
   ·rw [if_pos e, List.filter_cons_of_pos (by simpa using e)]; simp [hi]
   ·rw [if_neg e, List.filter_cons_of_neg (by simpa using e)]; rfl
  by_cases e : upP n.f_path = K
  ·have hv : v = p := by rw [← e, hp] at h; exact (Option.some.inj h).symm
   subst hv
   refine ⟨{ x with Kids := x.Kids ++ [({ Name := lastO n, Ino := ino } : TApiKid)] }, ?_, h2, ?_⟩
   ·rw [List.getElem?_set_self (by omega), h1]; rfl
   ·rw [hkid, if_pos e, ← h3]
  ·have hv : v ≠ p := fun q => e (H.inj _ _ _ (q ▸ hp) h)
   refine ⟨x, ?_, h2, ?_⟩
   ·rw [List.getElem?_set_ne (by omega)]; exact h1
   ·rw [hkid, if_neg e, List.append_nil]; exact h3
theorem set_get {l : List TApiNode} {i k : Nat} {f : TApiNode → TApiNode} {x : TApiNode} (hf : ∀ x, bas (f x) = bas x ∧ (f x).Kids = x.Kids) (h : l[k]? = some x) : ∃ y, (l.set i (f ((l[i]?).getD dN)))[k]? = some y ∧ bas y = bas x ∧ y.Kids = x.Kids := by
 by_cases e : k = i
 ·subst e
  refine ⟨f x, ?_, (hf x).1, (hf x).2⟩
  rw [List.getElem?_set_self (lt_of_get h), h]
  rfl
 ·exact ⟨x, by rw [List.getElem?_set_ne (Ne.symm e)]; exact h, rfl, rfl⟩
theorem c3_get {ino par : Int} {k : Nat} {x : TApiNode} (h : b[k]? = some x) : ∃ y, (c3 b ino par)[k]? = some y ∧ bas y = bas x ∧ y.Kids = x.Kids := by
 unfold c3
 simp only
 split
 ·obtain ⟨y, h1, h2, h3⟩ := set_get (i := ino.toNat) (f := fun x => putPar x par) (fun _ => ⟨rfl, rfl⟩) h
  obtain ⟨z, g1, g2, g3⟩ := set_get (i := par.toNat) (f := putLinks) (fun _ => ⟨rfl, rfl⟩) h1
  exact ⟨z, g1, g2.trans h2, g3.trans h3⟩
 ·exact set_get (i := ino.toNat) (f := putLinks) (fun _ => ⟨rfl, rfl⟩) h
theorem c3_len {ino par : Int} : (c3 b ino par).length = b.length := by
 unfold c3
 simp only
 split <;> simp only [List.length_set]
theorem FI.c3 (H : FI nd rn T' T inos b) (ino par : Int) : FI nd rn T' T inos (F.c3 b ino par) := by
 refine ⟨H.rt, H.key, H.all, H.upk, H.inj, fun K v h => by rw [c3_len]; exact H.rng K v h, fun K v h => ?_, fun j hj => H.ono j (by rw [c3_len] at hj; exact hj)⟩
 obtain ⟨x, h1, h2, h3⟩ := H.nod K v h
 obtain ⟨y, g1, g2, g3⟩ := c3_get (ino := ino) (par := par) h1
 exact ⟨y, g1, g2.trans h2, g3.trans h3⟩
theorem FI.step (H : FI nd rn T T inos b) (n : TTreeNamed) (hof : n.f_of ≠ []) (hk : (nd n.f_of).Kids = []) (hup : ∃ v, mget inos (upP n.f_path) = some v) : FI nd rn (T ++ [n]) (T ++ [n]) (cstep nd (inos, b) n).1 (cstep nd (inos, b) n).2 := by
 obtain ⟨h1, h2, h3⟩ := H.c1 n hof hk
 obtain ⟨v, hv⟩ := hup
 unfold cstep
 exact (h1.c2 n h2 (h3 _ _ hv)).c3 _ _
end
theorem FI.start (nd : List UInt8 → TApiNode) (rn : TApiNode) (hk : rn.Kids = []) : FI nd rn [] [] (mput ([] : Inos) [] 0) [rn] := by
 have hput : ∀ K, mget (mput ([] : Inos) [] 0) K = if K = [] then some 0 else none := fun K => mget_put _ _ _ _
 refine ⟨by rw [hput, if_pos rfl], fun K v h => ?_, (fun m hm => by cases hm), (fun m hm => by cases hm), fun K K' v h h' => ?_, fun K v h => ?_, fun K v h => ?_, fun j hj => ?_⟩
 ·rw [hput] at h
  split at h
  ·rename_i e; exact Or.inl e
  ·cases h
 ·rw [hput] at h h'
  split at h
  ·split at h'
   ·rename_i e e'; rw [e, e']
   ·cases h'
  ·cases h
 ·rw [hput] at h
  split at h
  ·cases h; simp
  ·cases h
 ·rw [hput] at h
  split at h
  ·rename_i e
   cases h
   exact ⟨rn, rfl, by unfold ndR; rw [if_pos e], by rw [hk]; rfl⟩
  ·cases h
 ·simp only [List.length_singleton] at hj
  have : j = 0 := by omega
  subst this
  exact ⟨[], by rw [hput, if_pos rfl]; rfl⟩
theorem FI.fold {nd : List UInt8 → TApiNode} {rn : TApiNode} : ∀ (Q : List TTreeNamed) {T : List TTreeNamed} {inos : Inos} {b : List TApiNode}, FI nd rn T T inos b → (∀ n ∈ Q, n.f_of ≠ [] ∧ (nd n.f_of).Kids = []) → (∀ (a c : List TTreeNamed) (n : TTreeNamed), Q = a ++ n :: c → upP n.f_path = [] ∨ ∃ m ∈ T ++ a, m.f_of = upP n.f_path) →
  FI nd rn (T ++ Q) (T ++ Q) (Q.foldl (cstep nd) (inos, b)).1 (Q.foldl (cstep nd) (inos, b)).2
 | [], T, inos, b, H, _, _ => by rw [List.append_nil]; exact H
 | n :: Q, T, inos, b, H, h1, h2 => by
  have hup : ∃ v, mget inos (upP n.f_path) = some v := by
   rcases h2 [] Q n rfl with e | ⟨m, hm, e⟩
   ·rw [e]; exact ⟨0, H.rt⟩
   ·rw [List.append_nil] at hm
    rw [← e]
    exact H.all m hm
  have hs := H.step n (h1 n (List.mem_cons_self ..)).1 (h1 n (List.mem_cons_self ..)).2 hup
  rw [List.foldl_cons]
  have := FI.fold Q hs (fun m hm => h1 m (List.mem_cons_of_mem _ hm)) (fun a c m e => by
   rcases h2 (n :: a) c m (by rw [e]; rfl) with g | ⟨m', hm', g⟩
   ·exact Or.inl g
   ·exact Or.inr ⟨m', by rw [List.append_assoc]; exact hm', g⟩)
  rw [List.append_assoc] at this
  exact this
end Go.Proofs.YtkleajhiihbefaaGreatDoor.F
namespace Go.Proofs.YtkleajhiihbefaaGreatDoor.F
open Go Go.RowKit Go.Proofs.YtkleajhiihbefaaGreatDoor.K Go.Proofs.YtkleajhiihbefaaGreatDoor.K.E
def iO (inos : Inos) (n : TTreeNamed) : Int := (mget inos n.f_of).getD 0
def nO (b : List TApiNode) (inos : Inos) (n : TTreeNamed) : TApiNode := (b[(iO inos n).toNat]?).getD dN
def kidO (inos : Inos) (c : TTreeNamed) : TApiKid := { Name := lastO c, Ino := iO inos c }
def hardEnt (p q : List UInt8) : TApiEntry := { Path := p, Kind := 6, Mode := 0, Uid := 0, Gid := 0, Time := 0, Size := 0, Data := [], Target := q, Dev := 0, Attrs := [] }
def fullEnt (p : List UInt8) (x : TApiNode) : TApiEntry := { Path := p, Kind := x.Kind, Mode := x.Mode, Uid := x.Uid, Gid := x.Gid, Time := x.Time, Size := x.Size, Data := x.Data, Target := x.Target, Dev := x.Dev, Attrs := x.Attrs }
abbrev LSt := List (Int × List UInt8) × List TApiEntry
def vstep (b : List TApiNode) (inos : Inos) (s : LSt) (n : TTreeNamed) : LSt := match mget s.1 (iO inos n) with
 | some q => (s.1, s.2 ++ [hardEnt n.f_path q])
 | none => (mput s.1 (iO inos n) n.f_path, s.2 ++ [fullEnt n.f_path (nO b inos n)])
structure TF (S : List TTreeNamed) (inos : Inos) (b : List TApiNode) : Prop where
 cl : Cl S
 pth : ∀ n ∈ S, n.f_path ≠ [] ∧ n.f_parts ≠ [] ∧ n.f_parts.length ≤ 64 ∧ n.f_path.length ≤ 4096
 one : ∀ n ∈ S, n.f_parts.dropLast = [] → n.f_path = lastO n
 two : ∀ n ∈ S, ∀ m ∈ S, n.f_parts.dropLast = m.f_parts → n.f_path = m.f_path ++ 47 :: lastO n
 rng : ∀ n ∈ S, 0 ≤ iO inos n ∧ iO inos n < b.length
 kids : ∀ n ∈ S, (nO b inos n).Kids = (kidsOf S n.f_parts).map (kidO inos)
 root : ∃ x, b[0]? = some x ∧ x.Kids = (kidsOf S []).map (kidO inos)
 dir1 : ∀ d ∈ S, (nO b inos d).Kind = 2 → iO inos d ≠ 0 ∧ ∀ x ∈ S, iO inos x = iO inos d → x = d
 leaf : ∀ n ∈ S, (nO b inos n).Kind ≠ 2 → below S n.f_parts = []
 att : ∀ x ∈ b, tree_attrs x.Attrs = some x.Attrs ∧ x.Data.length ≤ 80000
theorem clone_ok {s : List UInt8} (h : s.length ≤ 100000000) : bytes_Clone s = some s := by
 unfold bytes_Clone
 rw [app_ok (by simp; omega)]
 rfl
theorem take_split {α β : Type} (f : α → List β) : ∀ (l : List α) (t : Nat) (c : α), l[t]? = some c → l.flatMap f = (l.take t).flatMap f ++ (f c ++ (l.drop (t + 1)).flatMap f)
 | [], t, c, h => by simp at h
 | x :: l, 0, c, h => by
  simp only [List.getElem?_cons_zero, Option.some.injEq] at h
  subst h
  simp
 | x :: l, t + 1, c, h => by
  have := take_split f l t c (by simpa using h)
  simp only [List.flatMap_cons, List.take_succ_cons, List.drop_succ_cons]
  rw [this, List.append_assoc]
section
variable {b : List TApiNode} {inos : Inos}
theorem vstep_len (s : LSt) (n : TTreeNamed) : (vstep b inos s n).2.length = s.2.length + 1 := by
 unfold vstep
 split <;> simp
theorem vfold_len : ∀ (X : List TTreeNamed) (s : LSt), (X.foldl (vstep b inos) s).2.length = s.2.length + X.length
 | [], s => rfl
 | x :: X, s => by
  rw [List.foldl_cons, vfold_len X, vstep_len, List.length_cons]
  omega
theorem vfold_keep {v : Int} : ∀ (X : List TTreeNamed) (s : LSt), (∀ x ∈ X, iO inos x ≠ v) → mget (X.foldl (vstep b inos) s).1 v = mget s.1 v
 | [], s, _ => rfl
 | x :: X, s, h => by
  rw [List.foldl_cons, vfold_keep X _ (fun y hy => h y (List.mem_cons_of_mem _ hy))]
  have hx := h x (List.mem_cons_self ..)
  unfold vstep
  split
  ·rfl
  ·simp only
   rw [mget_put, if_neg (Ne.symm hx)]
theorem kids_loop {rec_ : List TApiNode → List (Int × List UInt8) → List TApiEntry → Int → List UInt8 → Int → Option (Sum Unit (List TApiNode × List (Int × List UInt8) × List TApiEntry))} {P : List UInt8} {d : Nat} {x : TApiNode} (hd : d ≤ 1000) (hP : P.length ≤ 5000) (hk : x.Kids.length ≤ 1000) (hn : ∀ c ∈ x.Kids, c.Name.length ≤ 5000) (st : Nat → LSt)
  (h : ∀ t kd, x.Kids[t]? = some kd → rec_ b (st t).1 (st t).2 kd.Ino (if P = [] then kd.Name else P ++ 47 :: kd.Name) (if P = [] then 1 else ((d + 1 : Nat) : Int)) = some (.inr (b, (st (t + 1)).1, (st (t + 1)).2))) :
  loopO (fun s : Int × (List TApiNode × List (Int × List UInt8) × List TApiEntry) => tree_lister_add_l1 rec_ P (d : Int) x s.1 s.2.1 s.2.2.1 s.2.2.2) (0, (b, (st 0).1, (st 0).2)) = some (.inl (b, (st x.Kids.length).1, (st x.Kids.length).2)) := by
 have := loop_inv (body := fun s : Int × (List TApiNode × List (Int × List UInt8) × List TApiEntry) => tree_lister_add_l1 rec_ P (d : Int) x s.1 s.2.1 s.2.2.1 s.2.2.2) x.Kids.length (fun t s => s = ((t : Int), (b, (st t).1, (st t).2))) (fun r => r = .inl (b, (st x.Kids.length).1, (st x.Kids.length).2)) (by
  rintro t s ht rfl
  have hx : x.Kids[t]? = some x.Kids[t] := List.getElem?_eq_getElem ht
  have hnl := hn _ (mem_of_get hx)
  have hr := h t _ hx
  refine Or.inl ⟨_, ?_, rfl⟩
  unfold tree_lister_add_l1
  simp only
  rw [dT (by omega), cond_true, idx_ok hx, Option.bind_some, w1 (by omega)]
  by_cases hp : P = []
  ·rw [if_pos hp, if_pos hp] at hr
   rw [show (P == []) = true by simpa using hp, cond_true, hr]
   rfl
  ·rw [if_neg hp, if_neg hp] at hr
   rw [show (P == []) = false by simpa using hp, cond_false, cat_ok (by simp only [List.length_cons, List.length_nil]; omega), Option.bind_some, cat_ok (by simp only [List.length_append, List.length_cons, List.length_nil]; omega), Option.bind_some, w1 (by omega)]
   rw [show P ++ [47] ++ x.Kids[t].Name = P ++ 47 :: x.Kids[t].Name by simp, hr]
   rfl) (by
  rintro s rfl
  unfold tree_lister_add_l1
  simp only
  rw [dF (by omega)]
  exact ⟨_, rfl, rfl⟩) (s := ((0 : Int), (b, (st 0).1, (st 0).2))) rfl
 obtain ⟨r, e, rfl⟩ := this
 exact e
theorem add_new {k : Nat} {i : Int} {P : List UInt8} {d : Nat} {s : LSt} {x : TApiNode} (hi : 0 ≤ i ∧ i < b.length) (hx : b[i.toNat]? = some x) (hd : d ≤ 64) (hs : s.2.length ≤ 10000) (hm : mget s.1 i = none) (ha : tree_attrs x.Attrs = some x.Attrs) (hdl : x.Data.length ≤ 80000) {f : List (Int × List UInt8)} {o : List TApiEntry}
  (hl : loopO (fun q : Int × (List TApiNode × List (Int × List UInt8) × List TApiEntry) => tree_lister_add_l1 (tree_lister_add k) P (d : Int) x q.1 q.2.1 q.2.2.1 q.2.2.2) (0, (b, mput s.1 i P, s.2 ++ [fullEnt P x])) = some (.inl (b, f, o))) :
  tree_lister_add (k + 1) b s.1 s.2 i P (d : Int) = some (.inr (b, f, o)) := by
 show tree_lister_add_s (tree_lister_add k) b s.1 s.2 i P (d : Int) = _
 unfold tree_lister_add_s
 have hix : idx b i = some x := by
  obtain ⟨n, rfl⟩ : ∃ n : Nat, i = (n : Int) := ⟨i.toNat, by omega⟩
  rw [Int.toNat_natCast] at hx
  exact idx_ok hx
 rw [dF (by omega), dF (by omega), dF (by omega), dF (by omega)]
 simp only [cond_false, bI, hix, Option.bind_some, hm, Option.isSome_none, clone_ok (show x.Data.length ≤ 100000000 by omega), ha, dup_eq, fork_same]
 rw [app_one (by omega), Option.bind_some, bI]
 simp only
 rw [show ({ Path := P, Kind := x.Kind, Mode := x.Mode, Uid := x.Uid, Gid := x.Gid, Time := x.Time, Size := x.Size, Data := x.Data, Target := x.Target, Dev := x.Dev, Attrs := x.Attrs } : TApiEntry) = fullEnt P x from rfl, hl]
 rfl
theorem add_again {k : Nat} {i : Int} {P q : List UInt8} {d : Nat} {s : LSt} {x : TApiNode} (hi : 0 ≤ i ∧ i < b.length) (hx : b[i.toNat]? = some x) (hd : d ≤ 64) (hs : s.2.length ≤ 10000) (hm : mget s.1 i = some q) (hk : x.Kind ≠ 2) :
  tree_lister_add (k + 1) b s.1 s.2 i P (d : Int) = some (.inr (b, s.1, s.2 ++ [hardEnt P q])) := by
 show tree_lister_add_s (tree_lister_add k) b s.1 s.2 i P (d : Int) = _
 unfold tree_lister_add_s
 have hix : idx b i = some x := by
  obtain ⟨n, rfl⟩ : ∃ n : Nat, i = (n : Int) := ⟨i.toNat, by omega⟩
  rw [Int.toNat_natCast] at hx
  exact idx_ok hx
 rw [dF (by omega), dF (by omega), dF (by omega), dF (by omega)]
 simp only [cond_false, bI, hix, Option.bind_some, hm, Option.isSome_some, cond_true, Option.getD_some]
 rw [show (x.Kind == 2) = false by simpa using hk, cond_false, app_one (by omega)]
 rfl
variable {S : List TTreeNamed} (W : TF S inos b)
include W
theorem TF.nod {n : TTreeNamed} (hn : n ∈ S) : b[(iO inos n).toNat]? = some (nO b inos n) ∧ nO b inos n ∈ b := by
 have h := W.rng n hn
 have hlt : (iO inos n).toNat < b.length := by omega
 unfold nO
 rw [List.getElem?_eq_getElem hlt]
 exact ⟨rfl, List.getElem_mem hlt⟩
def Fsh (b : List TApiNode) (inos : Inos) (s : LSt) (X : List TTreeNamed) : Prop := ∀ d ∈ X, (nO b inos d).Kind = 2 → mget s.1 (iO inos d) = none
theorem TF.fsh {s : LSt} {A B : List TTreeNamed} (hA : ∀ x ∈ A, x ∈ S) (hB : ∀ x ∈ B, x ∈ S) (hs : Srt (A ++ B)) (h : Fsh b inos s (A ++ B)) : Fsh b inos (A.foldl (vstep b inos) s) B := by
 intro d hd h2
 rw [vfold_keep A s]
 ·exact h d (List.mem_append_right _ hd) h2
 ·intro x hx e
  have := (W.dir1 d (hB d hd) h2).2 x (hA x hx) e
  have hlt := (List.pairwise_append.1 hs).2.2 x hx d hd
  rw [this, nL_irr] at hlt
  cases hlt
theorem TF.srt_sub {n : TTreeNamed} (hn : n ∈ S) : Srt (n :: below S n.f_parts) := by
 rw [Srt, List.pairwise_cons]
 refine ⟨fun x hx => ?_, W.cl.so.filter _⟩
 obtain ⟨_, ⟨q, hq⟩, hne⟩ := mem_below.1 hx
 unfold nL
 rw [← hq]
 exact pL_pre fun e => hne (by rw [← hq, e, List.append_nil])
theorem TF.kids_run {k : Nat} {p : Parts} {P : List UInt8} {x : TApiNode} {s : LSt} (hx : x.Kids = (kidsOf S p).map (kidO inos)) (hpd : p.length ≤ 64) (hP : P.length ≤ 4096) (hS : S.length ≤ 1000)
  (hP0 : p = [] → P = []) (hPn : p ≠ [] → P ≠ [] ∧ ∀ c ∈ kidsOf S p, c.f_path = P ++ 47 :: lastO c)
  (ih : ∀ n ∈ S, n.f_parts.length = p.length + 1 → ∀ s : LSt, Fsh b inos s (n :: below S n.f_parts) → s.2.length + (n :: below S n.f_parts).length ≤ 5000 → tree_lister_add k b s.1 s.2 (iO inos n) n.f_path ((n.f_parts.length : Nat) : Int) = some (.inr (b, ((n :: below S n.f_parts).foldl (vstep b inos) s).1, ((n :: below S n.f_parts).foldl (vstep b inos) s).2)))
  (hs : Srt (below S p)) (hf : Fsh b inos s (below S p)) (hl : s.2.length + (below S p).length ≤ 5000) :
  loopO (fun q : Int × (List TApiNode × List (Int × List UInt8) × List TApiEntry) => tree_lister_add_l1 (tree_lister_add k) P (p.length : Int) x q.1 q.2.1 q.2.2.1 q.2.2.2) (0, (b, s.1, s.2)) = some (.inl (b, ((below S p).foldl (vstep b inos) s).1, ((below S p).foldl (vstep b inos) s).2)) := by
 let sub := fun c : TTreeNamed => c :: below S c.f_parts
 have hbe := W.cl.below_eq p
 have hlen : x.Kids.length = (kidsOf S p).length := by rw [hx, List.length_map]
 have hkl : (kidsOf S p).length ≤ 1000 := Nat.le_trans (List.length_filter_le _ _) hS
 have hname : ∀ c ∈ S, (lastO c).length ≤ 4096 := fun c hc => by
  by_cases h0 : c.f_parts.dropLast = []
  ·rw [← W.one c hc h0]; exact (W.pth c hc).2.2.2
  ·rcases W.cl.up c hc with e | ⟨m, hm, e⟩
   ·exact absurd e h0
   ·have h1 := W.two c hc m hm e.symm
    have h2 := (W.pth c hc).2.2.2
    rw [h1, List.length_append, List.length_cons] at h2
    omega
 have := kids_loop (rec_ := tree_lister_add k) (b := b) (P := P) (d := p.length) (x := x) (by omega) (by omega) (by omega) (fun c hc => by
  rw [hx] at hc
  obtain ⟨y, hy, rfl⟩ := List.mem_map.1 hc
  have := hname y (mem_kidsOf.1 hy).1
  show (lastO y).length ≤ 5000
  omega) (fun t => ((kidsOf S p).take t).flatMap sub |>.foldl (vstep b inos) s) (by
  intro t kd ht
  rw [hx, List.getElem?_map] at ht
  cases hc : (kidsOf S p)[t]? with
  | none => rw [hc] at ht; cases ht
  | some c =>
   rw [hc] at ht
   simp only [Option.map_some, Option.some.injEq] at ht
   subst ht
   obtain ⟨c0, c1, c2⟩ := mem_kidsOf.1 (mem_of_get hc)
   have hcl : c.f_parts.length = p.length + 1 := by
    obtain ⟨z, hz⟩ := kid_parts c1 c2
    rw [hz]; simp
   have hsp := take_split sub (kidsOf S p) t c hc
   have hall : below S p = ((kidsOf S p).take t).flatMap sub ++ (sub c ++ ((kidsOf S p).drop (t + 1)).flatMap sub) := by rw [← hsp]; exact hbe
   have hA : ∀ y ∈ ((kidsOf S p).take t).flatMap sub, y ∈ S := fun y hy => (mem_below.1 (by rw [hall]; exact List.mem_append_left _ hy : y ∈ below S p)).1
   have hB : ∀ y ∈ sub c ++ ((kidsOf S p).drop (t + 1)).flatMap sub, y ∈ S := fun y hy => (mem_below.1 (by rw [hall]; exact List.mem_append_right _ hy : y ∈ below S p)).1
   have hfs := W.fsh hA hB (by rw [← hall]; exact hs) (by rw [← hall]; exact hf)
   have hpath : (if P = [] then (kidO inos c).Name else P ++ 47 :: (kidO inos c).Name) = c.f_path := by
    by_cases hp : p = []
    ·rw [if_pos (hP0 hp)]
     exact (W.one c c0 (by rw [c1, hp])).symm
    ·rw [if_neg (hPn hp).1]
     exact ((hPn hp).2 c (mem_of_get hc)).symm
   have hdeep : (if P = [] then (1 : Int) else ((p.length + 1 : Nat) : Int)) = ((c.f_parts.length : Nat) : Int) := by
    rw [hcl]
    by_cases hp : p = []
    ·rw [if_pos (hP0 hp), hp]; rfl
    ·rw [if_neg (hPn hp).1]
   rw [hpath, hdeep]
   have hlen2 := vfold_len (b := b) (inos := inos) (((kidsOf S p).take t).flatMap sub) s
   have hlen3 := congrArg List.length hall
   rw [List.length_append, List.length_append] at hlen3
   have := ih c c0 hcl (((kidsOf S p).take t).flatMap sub |>.foldl (vstep b inos) s) (fun d hd => hfs d (List.mem_append_left _ hd)) (by
    rw [hlen2]
    have : (sub c).length = (c :: below S c.f_parts).length := rfl
    omega)
   show tree_lister_add k b _ _ (iO inos c) _ _ = _
   rw [this]
   have htk : ((kidsOf S p).take (t + 1)).flatMap sub = ((kidsOf S p).take t).flatMap sub ++ sub c := by
    rw [List.take_add_one, hc]; simp
   rw [htk, List.foldl_append])
 rw [hlen, List.take_length] at this
 simp only [List.take_zero, List.flatMap_nil, List.foldl_nil] at this
 rw [this, hbe]
theorem TF.dfs (hS : S.length ≤ 1000) : ∀ (k : Nat) (n : TTreeNamed), n ∈ S → 66 ≤ n.f_parts.length + k → ∀ s : LSt, Fsh b inos s (n :: below S n.f_parts) → s.2.length + (n :: below S n.f_parts).length ≤ 5000 →
  tree_lister_add k b s.1 s.2 (iO inos n) n.f_path ((n.f_parts.length : Nat) : Int) = some (.inr (b, ((n :: below S n.f_parts).foldl (vstep b inos) s).1, ((n :: below S n.f_parts).foldl (vstep b inos) s).2))
 | 0, n, hn, hk, s, _, _ => by have := (W.pth n hn).2.2.1; omega
 | k + 1, n, hn, hk, s, hf, hl => by
  obtain ⟨p1, p2, p3, p4⟩ := W.pth n hn
  obtain ⟨hx, hxm⟩ := W.nod hn
  have hi := W.rng n hn
  have hkids := W.kids n hn
  rw [List.length_cons] at hl
  rw [List.foldl_cons]
  cases hm : mget s.1 (iO inos n) with
  | some q =>
   have hk2 : (nO b inos n).Kind ≠ 2 := fun e => by
    rw [hf n (List.mem_cons_self ..) e] at hm; cases hm
   have hv : vstep b inos s n = (s.1, s.2 ++ [hardEnt n.f_path q]) := by unfold vstep; rw [hm]
   rw [W.leaf n hn hk2, List.foldl_nil, hv]
   exact add_again hi hx p3 (by omega) hm hk2
  | none =>
   have hv : vstep b inos s n = (mput s.1 (iO inos n) n.f_path, s.2 ++ [fullEnt n.f_path (nO b inos n)]) := by unfold vstep; rw [hm]
   obtain ⟨a1, a2⟩ := W.att _ hxm
   refine add_new hi hx p3 (by omega) hm a1 a2 ?_
   have hsub : Srt (below S n.f_parts) := W.cl.so.filter _
   have hf2 : Fsh b inos (vstep b inos s n) (below S n.f_parts) := by
    have := W.fsh (s := s) (A := [n]) (B := below S n.f_parts) (fun x hx => by rw [List.mem_singleton.1 hx]; exact hn) (fun x hx => (mem_below.1 hx).1) (W.srt_sub hn) hf
    exact this
   have := W.kids_run (k := k) (p := n.f_parts) (P := n.f_path) (s := vstep b inos s n) hkids p3 p4 hS (fun e => absurd e p2) (fun _ => ⟨p1, fun c hc => by
    obtain ⟨c0, c1, _⟩ := mem_kidsOf.1 hc
    exact W.two c c0 n hn c1⟩) (fun m hm hml s' h1 h2 => TF.dfs hS k m hm (by omega) s' h1 h2) hsub hf2 (by rw [vstep_len]; omega)
   rw [hv] at this ⊢
   exact this
end
end Go.Proofs.YtkleajhiihbefaaGreatDoor.F
namespace Go.Proofs.YtkleajhiihbefaaGreatDoor.F
open Go Go.RowKit Go.Proofs.YtkleajhiihbefaaGreatDoor.K Go.Proofs.YtkleajhiihbefaaGreatDoor.K.E
theorem spl_snoc {b : List UInt8} (h : (47 : UInt8) ∉ b) : ∀ a : List UInt8, spl (a ++ 47 :: b) = spl a ++ [b]
 | [] => by
  rw [List.nil_append, spl_cons, if_pos rfl, spl_none h]
  rfl
 | c :: a => by
  have ih := spl_snoc h a
  rw [List.cons_append, spl_cons, spl_cons, ih]
  by_cases hc : c = 47
  ·rw [if_pos hc, if_pos hc]; rfl
  ·rw [if_neg hc, if_neg hc]
   cases hs : spl a with
   | nil => exact absurd hs (spl_ne a)
   | cons p r => rfl
def lastP (x : List UInt8) : List UInt8 := ((spl x)[(spl x).length - 1]?).getD []
theorem path_cases (x : List UInt8) : ((47 : UInt8) ∉ x ∧ spl x = [x] ∧ upP x = [] ∧ lastP x = x) ∨ ((47 : UInt8) ∈ x ∧ spl x = spl (upP x) ++ [lastP x] ∧ x = upP x ++ 47 :: lastP x) := by
 by_cases h : (47 : UInt8) ∈ x
 ·obtain ⟨a, b, e, hb⟩ := cutR h
  have h1 : upP x = a := by rw [e, upP_cut hb]
  have h2 : spl x = spl a ++ [b] := by rw [e, spl_snoc hb]
  have h3 : lastP x = b := by
   unfold lastP
   rw [h2]
   simp
  exact Or.inr ⟨h, by rw [h1, h2, h3], by rw [h1, h3, ← e]⟩
 ·have h2 := spl_none h
  exact Or.inl ⟨h, h2, upP_none h, by unfold lastP; rw [h2]; rfl⟩
theorem isort_strict {α κ : Type} {cmp : α → α → Option Int} {key : α → κ} {lt : κ → κ → Bool} (O : STO lt) {l : List α} (hc : ∀ x ∈ l, ∀ y ∈ l, ltC cmp x y = lt (key x) (key y)) (hd : l.Pairwise (fun x y => key x ≠ key y)) : (isort (ltC cmp) l).Pairwise (fun x y => lt (key x) (key y) = true) := by
 have h1 := isort_sorted (lt := ltC cmp) (p := fun x => x ∈ l) (fun x hx => by rw [hc x hx x hx, O.irr]) (fun x y z hx hy hz a b => by rw [hc _ hx _ hz]; rw [hc _ hx _ hy] at a; rw [hc _ hy _ hz] at b; exact O.tr _ _ _ a b) (fun x y z hx hy hz a b => by rw [hc _ hx _ hz]; rw [hc _ hx _ hy] at a; rw [hc _ hy _ hz] at b; exact O.ntr a b) (fun y hy => hy)
 have h2 : (isort (ltC cmp) l).Pairwise (fun x y => key x ≠ key y) := ((isort_perm (ltC cmp) l).pairwise_iff (fun {a b} h => Ne.symm h)).2 hd
 refine (h1.and h2).imp_of_mem ?_
 rintro a b ha hb ⟨g1, g2⟩
 have ha := (isort_perm (ltC cmp) l).mem_iff.1 ha
 have hb := (isort_perm (ltC cmp) l).mem_iff.1 hb
 rw [hc b hb a ha] at g1
 cases h : lt (key a) (key b) with
 | true => rfl
 | false => exact absurd (O.tot _ _ h g1) g2
theorem ltC_of {α : Type} {cmp : α → α → Option Int} {x y : α} {v : Int} {b : Bool} (h1 : cmp x y = some v) (h2 : decide (v < 0) = b) : ltC cmp x y = b := by
 unfold ltC
 rw [h1]
 exact h2
theorem isort_id {α κ : Type} {cmp : α → α → Option Int} {key : α → κ} {lt : κ → κ → Bool} (O : STO lt) {l : List α} (hc : ∀ x ∈ l, ∀ y ∈ l, ltC cmp x y = lt (key x) (key y)) (hd : l.Pairwise (fun x y => lt (key x) (key y) = true)) : isort (ltC cmp) l = l := by
 refine so_uniq (lt := fun x y => lt (key x) (key y)) (fun x => O.irr _) (fun x y z => O.tr _ _ _) (isort_strict O hc (hd.imp fun h e => by rw [e, O.irr] at h; cases h)) hd fun x => (isort_perm _ _).mem_iff
theorem ad_pw {l : List TApiAttr} (h : ∀ (i k : Nat) a b, k < i → l[i]? = some a → l[k]? = some b → b.Name ≠ a.Name) : l.Pairwise (fun x y => x.Name ≠ y.Name) := by
 rw [List.pairwise_iff_getElem]
 intro i j hi hj hij
 exact h j i _ _ hij (List.getElem?_eq_getElem hj) (List.getElem?_eq_getElem hi)
theorem pw_ad {l : List TApiAttr} (h : l.Pairwise (fun x y => x.Name ≠ y.Name)) : ∀ (i k : Nat) a b, k < i → l[i]? = some a → l[k]? = some b → b.Name ≠ a.Name := by
 intro i k a b hk ha hb
 rw [List.pairwise_iff_getElem] at h
 obtain ⟨h1, rfl⟩ := List.getElem?_eq_some_iff.1 ha
 obtain ⟨h2, rfl⟩ := List.getElem?_eq_some_iff.1 hb
 exact h k i h2 h1 hk
theorem cmpA_lt (x y : TApiAttr) : ltC cmpA x y = ltB x.Name y.Name := ltC_of (v := cmpS x.Name y.Name) (by unfold cmpA tree_attrs_1; rw [cmp_str]; rfl) (cmpS_neg _ _)
theorem attrsN_mem {l : List TApiAttr} {a : TApiAttr} : a ∈ attrsN l ↔ a ∈ l := (isort_perm _ _).mem_iff
theorem attrsN_ad {l : List TApiAttr} (h : ∀ (i k : Nat) a b, k < i → l[i]? = some a → l[k]? = some b → b.Name ≠ a.Name) : ∀ (i k : Nat) a b, k < i → (attrsN l)[i]? = some a → (attrsN l)[k]? = some b → b.Name ≠ a.Name :=
 pw_ad (((isort_perm (ltC cmpA) l).pairwise_iff (fun {a b} h => Ne.symm h)).2 (ad_pw h))
theorem attrsN_strict {l : List TApiAttr} (h : ∀ (i k : Nat) a b, k < i → l[i]? = some a → l[k]? = some b → b.Name ≠ a.Name) : (attrsN l).Pairwise (fun x y => ltB x.Name y.Name = true) := isort_strict (key := fun a : TApiAttr => a.Name) ltB_sto (fun x _ y _ => cmpA_lt x y) (ad_pw h)
theorem attrsN_idem {l : List TApiAttr} (h : ∀ (i k : Nat) a b, k < i → l[i]? = some a → l[k]? = some b → b.Name ≠ a.Name) : attrsN (attrsN l) = attrsN l := isort_id (key := fun a : TApiAttr => a.Name) ltB_sto (fun x _ y _ => cmpA_lt x y) (attrsN_strict h)
noncomputable def SN (l : List TApiEntry) : List TTreeNamed := isort (ltC cmpN) (namesU l)
theorem SN_mem {l : List TApiEntry} {n : TTreeNamed} : n ∈ SN l ↔ n ∈ namesU l := (isort_perm _ _).mem_iff
theorem nm_mem {l : List TApiEntry} {e : TApiEntry} (he : e ∈ l) (hn : e.Path ≠ []) : nm e ∈ SN l := SN_mem.2 (List.mem_map_of_mem (List.mem_filter.2 ⟨he, by simpa using hn⟩))
section
variable {l : List TApiEntry} (V : VE l)
include V
theorem VE.pathOk {e : TApiEntry} (he : e ∈ l) : PathOk e.Path e.Kind := by
 obtain ⟨i, hi⟩ := get_of_mem he
 exact (V.ents i e hi).path
theorem VE.pathN {e : TApiEntry} (he : e ∈ l) (hn : e.Path ≠ []) : e.Path.length ≤ 4096 ∧ (∀ p ∈ spl e.Path, vN p = true) ∧ (spl e.Path).length ≤ 64 := by
 rcases V.pathOk he with h | h
 ·exact absurd h.1 hn
 ·exact h.2
theorem VE.upE {e : TApiEntry} (he : e ∈ l) : upP e.Path = [] ∨ ∃ x ∈ l, x.Path = upP e.Path ∧ x.Kind = 2 := by
 obtain ⟨i, hi⟩ := get_of_mem he
 exact (V.ents i e hi).up
theorem VE.lnk {e : TApiEntry} (he : e ∈ l) (h6 : e.Kind = 6) : ∃ x ∈ l, x.Path = e.Target ∧ 1 ≤ x.Kind ∧ x.Kind ≤ 5 ∧ x.Kind ≠ 2 := by
 obtain ⟨i, hi⟩ := get_of_mem he
 exact (V.ents i e hi).link h6
theorem VE.fok {e : TApiEntry} (he : e ∈ l) (h6 : e.Kind ≠ 6) : FOk e.Kind e.Mode e.Uid e.Gid e.Time e.Size e.Data e.Target e.Dev e.Attrs := by
 obtain ⟨i, hi⟩ := get_of_mem he
 exact (V.ents i e hi).flds h6
theorem VE.kindE {e : TApiEntry} (he : e ∈ l) : 1 ≤ e.Kind ∧ e.Kind ≤ 6 := by
 obtain ⟨i, hi⟩ := get_of_mem he
 exact (V.ents i e hi).kind
omit V in
theorem SN_ltP (V : PE l) {x y : TTreeNamed} (hx : x ∈ namesU l) (hy : y ∈ namesU l) : ltC cmpN x y = pL x.f_parts y.f_parts := by
 obtain ⟨v, h1, h2⟩ := cmpN_okP V x hx y hy
 exact ltC_of h1 h2
theorem SN_lt {x y : TTreeNamed} (hx : x ∈ namesU l) (hy : y ∈ namesU l) : ltC cmpN x y = pL x.f_parts y.f_parts := SN_ltP V.pe hx hy
omit V in
theorem SN_srtP (V : PE l) : Srt (SN l) := isort_strict (key := fun n : TTreeNamed => n.f_parts) pL_sto (fun x hx y hy => SN_ltP V hx hy) (by
 refine V.names_pw.imp_of_mem ?_
 intro a b ha hb h e
 exact h (by rw [namesU_injP V a ha b hb e]))
theorem SN_srt : Srt (SN l) := SN_srtP V.pe
omit V in
theorem SN_lenP (V : PE l) : (SN l).length ≤ 300 := by
 have := V.len
 unfold SN
 rw [(isort_perm _ _).length_eq]
 unfold namesU
 rw [List.length_map]
 exact Nat.le_trans (List.length_filter_le _ _) this
theorem SN_len : (SN l).length ≤ 90 := by
 have := V.len
 unfold SN
 rw [(isort_perm _ _).length_eq]
 unfold namesU
 rw [List.length_map]
 exact Nat.le_trans (List.length_filter_le _ _) this
theorem SN_ent {n : TTreeNamed} (h : n ∈ SN l) : ∃ e ∈ l, e.Path ≠ [] ∧ n = nm e := namesU_mem (SN_mem.1 h)
theorem VE.find {e : TApiEntry} (he : e ∈ l) : l.find? (fun x => x.Path == e.Path) = some e := by
 cases hf : l.find? (fun y => y.Path == e.Path) with
 | none => have := List.find?_eq_none.1 hf e he; simp at this
 | some y =>
  have h1 := List.find?_some hf
  rw [V.inj (List.mem_of_find?_eq_some hf) he (by simpa using h1)]
theorem VE.ndOf {e : TApiEntry} (he : e ∈ l) (h6 : e.Kind ≠ 6) : F.ndOf l e.Path = nodeN e := by
 obtain ⟨r, h1, _, _, h2⟩ := V.node he h6
 unfold F.ndOf
 rw [V.find he, Option.getD_some, h1, Option.getD_some, h2]
theorem SN_own {n : TTreeNamed} (h : n ∈ SN l) : ∃ e ∈ l, e.Path = n.f_of ∧ e.Kind ≠ 6 ∧ n.f_of ≠ [] ∧ F.ndOf l n.f_of = nodeN e ∧ (e.Kind = 2 → n.f_of = n.f_path) := by
 obtain ⟨x, hx, hp, h6, _⟩ := V.owner (SN_mem.1 h)
 obtain ⟨e, he, hn, rfl⟩ := SN_ent V h
 refine ⟨x, hx, hp, h6, ?_, by rw [← hp]; exact V.ndOf hx h6, fun h2 => ?_⟩
 ·by_cases g : e.Kind = 6
  ·obtain ⟨y, hy, y1, y2⟩ := V.lnk he g
   have hf : (nm e).f_of = e.Target := by unfold nm; simp only [if_pos g]
   intro h0
   rcases V.pathOk hy with q | q
   ·exact y2.2.2 q.2
   ·exact q.1 (by rw [y1, ← hf, h0])
  ·have hf : (nm e).f_of = e.Path := by unfold nm; simp only [if_neg g]
   rw [hf]; exact hn
 ·by_cases g : e.Kind = 6
  ·obtain ⟨y, hy, y1, y2⟩ := V.lnk he g
   have hf : (nm e).f_of = e.Target := by unfold nm; simp only [if_pos g]
   rw [V.inj hx hy (by rw [hp, hf, y1])] at h2
   exact absurd h2 y2.2.2
  ·unfold nm; simp only [if_neg g]
theorem SN_cl : Cl (SN l) := by
 refine ⟨SN_srt V, fun n hn => ?_⟩
 obtain ⟨e, he, hne, rfl⟩ := SN_ent V hn
 show (spl e.Path).dropLast = [] ∨ _
 rcases path_cases e.Path with ⟨_, h2, _⟩ | ⟨h1, h2, h3⟩
 ·rw [h2]; exact Or.inl rfl
 ·have hu : upP e.Path ≠ [] := up_ne (V.pathN he hne).2.1 h1
  rcases V.upE he with h | ⟨x, hx, g1, g2⟩
  ·exact absurd h hu
  ·refine Or.inr ⟨nm x, nm_mem hx (by rw [g1]; exact hu), ?_⟩
   show spl x.Path = (spl e.Path).dropLast
   rw [g1]
   conv => rhs; rw [h2, List.dropLast_concat]
theorem kid_iff {c n : TTreeNamed} (hc : c ∈ SN l) (hn : n ∈ SN l) : c.f_parts.dropLast = n.f_parts ↔ upP c.f_path = n.f_path := by
 obtain ⟨e, he, hne, rfl⟩ := SN_ent V hc
 obtain ⟨f, hf, hnf, rfl⟩ := SN_ent V hn
 show (spl e.Path).dropLast = spl f.Path ↔ upP e.Path = f.Path
 rcases path_cases e.Path with ⟨_, h2, h3, _⟩ | ⟨h1, h2, h3⟩
 ·rw [h2, h3]
  constructor
  ·intro h; exact absurd h.symm (spl_ne _)
  ·intro h; exact absurd h.symm hnf
 ·conv => lhs; lhs; rw [h2, List.dropLast_concat]
  exact ⟨fun h => spl_inj h, fun h => by rw [h]⟩
theorem kid_root {c : TTreeNamed} (hc : c ∈ SN l) : c.f_parts.dropLast = [] ↔ upP c.f_path = [] := by
 obtain ⟨e, he, hne, rfl⟩ := SN_ent V hc
 show (spl e.Path).dropLast = [] ↔ upP e.Path = []
 rcases path_cases e.Path with ⟨_, h2, h3, _⟩ | ⟨h1, h2, h3⟩
 ·rw [h2, h3]; exact ⟨fun _ => rfl, fun _ => rfl⟩
 ·have hu : upP e.Path ≠ [] := up_ne (V.pathN he hne).2.1 h1
  conv => lhs; lhs; rw [h2, List.dropLast_concat]
  exact ⟨fun h => absurd h (spl_ne _), fun h => absurd h hu⟩
theorem up_dir {c : TTreeNamed} (hc : c ∈ SN l) (h : upP c.f_path ≠ []) : ∃ x ∈ l, x.Path = upP c.f_path ∧ x.Kind = 2 ∧ nm x ∈ SN l := by
 obtain ⟨e, he, hne, rfl⟩ := SN_ent V hc
 rcases V.upE he with g | ⟨x, hx, g1, g2⟩
 ·exact absurd g h
 ·exact ⟨x, hx, g1, g2, nm_mem hx (by rw [g1]; exact h)⟩
theorem SN_pre : ∀ (a c : List TTreeNamed) (n : TTreeNamed), SN l = a ++ n :: c → upP n.f_path = [] ∨ ∃ m ∈ a, m.f_of = upP n.f_path := by
 intro a c n e
 have hn : n ∈ SN l := by rw [e]; simp
 by_cases h : upP n.f_path = []
 ·exact Or.inl h
 ·obtain ⟨x, hx, g1, g2, g3⟩ := up_dir V hn h
  refine Or.inr ⟨nm x, ?_, by unfold nm; simp only [g2]; exact g1⟩
  have hlt : nL (nm x) n = true := by
   have hk := (kid_iff V hn g3).2 g1.symm
   have hpn : n.f_parts ≠ [] := by
    obtain ⟨e, _, _, rfl⟩ := SN_ent V hn
    exact spl_ne _
   obtain ⟨s, hs⟩ := kid_parts hk hpn
   unfold nL
   rw [hs]
   exact pL_pre (by simp)
  have hs := SN_srt V
  rw [e] at g3 hs
  rcases List.mem_append.1 g3 with g | g
  ·exact g
  ·exfalso
   have h2 := (List.pairwise_append.1 hs).2.1
   rw [List.pairwise_cons] at h2
   rcases List.mem_cons.1 g with g | g
   ·rw [g, nL_irr] at hlt; cases hlt
   ·have := nL_tr _ _ _ hlt (h2.1 _ g)
    rw [nL_irr] at this; cases this
noncomputable def inosN (l : List TApiEntry) : Inos := ((SN l).foldl (cstep (F.ndOf l)) (mput ([] : Inos) [] 0, [nodeN (rootE l)])).1
theorem canonN_fold : canonN l = ((SN l).foldl (cstep (F.ndOf l)) (mput ([] : Inos) [] 0, [nodeN (rootE l)])).2 := by
 obtain ⟨r, h1, _, _, h2⟩ := V.root
 unfold canonN
 rw [h1, Option.getD_some, h2]
 rfl
theorem canon_FI : FI (F.ndOf l) (nodeN (rootE l)) (SN l) (SN l) (inosN l) (canonN l) := by
 have := FI.fold (nd := F.ndOf l) (rn := nodeN (rootE l)) (SN l) (FI.start _ _ rfl) (fun n hn => by
  obtain ⟨e, he, h1, h6, h2, h3, _⟩ := SN_own V hn
  exact ⟨h2, by rw [h3]; rfl⟩) (fun a c n e => by
  rw [List.nil_append]
  exact SN_pre V a c n e)
 rw [List.nil_append] at this
 rw [canonN_fold V]
 exact this
theorem SN_node {n : TTreeNamed} (hn : n ∈ SN l) : ∃ e ∈ l, e.Path = n.f_of ∧ e.Kind ≠ 6 ∧ bas (nO (canonN l) (inosN l) n) = bas (nodeN e) ∧ (e.Kind = 2 → n.f_of = n.f_path) ∧ mget (inosN l) n.f_of = some (iO (inosN l) n) ∧ (nO (canonN l) (inosN l) n).Kids = kidR (SN l) (inosN l) n.f_of := by
 have H := canon_FI V
 obtain ⟨e, he, h1, h6, h2, h3, h4⟩ := SN_own V hn
 obtain ⟨v, hv⟩ := H.all n hn
 have hi : iO (inosN l) n = v := by unfold iO; rw [hv]; rfl
 obtain ⟨x, q1, q2, q3⟩ := H.nod _ _ hv
 have hx : nO (canonN l) (inosN l) n = x := by unfold nO; rw [hi, q1]; rfl
 refine ⟨e, he, h1, h6, ?_, h4, by rw [hi]; exact hv, by rw [hx]; exact q3⟩
 rw [hx, q2]
 unfold ndR
 rw [if_neg h2, h3]
theorem bas_kind {x y : TApiNode} (h : bas x = bas y) : x.Kind = y.Kind := by
 have := congrArg TApiNode.Kind h
 exact this
theorem VE.root_in : rootE l = dE ∨ (rootE l ∈ l ∧ (rootE l).Path = []) := (tree_root_eq V.len).2
theorem VE.root_fok : FOk (rootE l).Kind (rootE l).Mode (rootE l).Uid (rootE l).Gid (rootE l).Time (rootE l).Size (rootE l).Data (rootE l).Target (rootE l).Dev (rootE l).Attrs ∧ (rootE l).Data.length ≤ 80000 ∧ (rootE l).Kind = 2 := by
 rcases V.root_in with h | ⟨h1, h2⟩
 ·rw [h]; exact ⟨dE_ok, by decide, rfl⟩
 ·have hk : (rootE l).Kind = 2 := by
   rcases V.pathOk h1 with q | q
   ·exact q.2
   ·exact absurd h2 q.1
  exact ⟨V.fok h1 (by omega), V.data _ h1, hk⟩
theorem canon_TF : TF (SN l) (inosN l) (canonN l) := by
 have H := canon_FI V
 have nokid : ∀ n ∈ SN l, ∀ e ∈ l, e.Path = n.f_of → e.Kind ≠ 2 → ∀ c ∈ SN l, upP c.f_path ≠ n.f_of ∧ upP c.f_path ≠ n.f_path := by
  intro n hn e he h1 hk c hc
  obtain ⟨f, hf, hnf, rfl⟩ := SN_ent V hn
  obtain ⟨e2, _, g1, _, h0, _, _⟩ := SN_own V hn
  constructor
  ·intro h
   obtain ⟨x, hx, x1, x2, _⟩ := up_dir V hc (by rw [h]; exact h0)
   rw [V.inj hx he (by rw [x1, h, h1])] at x2
   exact hk x2
  ·intro h
   obtain ⟨x, hx, x1, x2, _⟩ := up_dir V hc (by rw [h]; exact hnf)
   have hxf : x = f := V.inj hx hf (by rw [x1, h]; rfl)
   subst hxf
   have : (nm x).f_of = x.Path := by unfold nm; simp only [x2]; rfl
   rw [V.inj he hf (by rw [h1, this])] at hk
   exact hk x2
 have kidsNil : ∀ n ∈ SN l, (nO (canonN l) (inosN l) n).Kind ≠ 2 → kidsOf (SN l) n.f_parts = [] := by
  intro n hn hk
  obtain ⟨e, he, h1, h6, h2, h3, h4, h5⟩ := SN_node V hn
  have hk2 : e.Kind ≠ 2 := fun q => hk (by rw [bas_kind V h2]; exact q)
  unfold kidsOf
  rw [List.filter_eq_nil_iff]
  intro c hc
  rw [decide_eq_true_eq]
  rintro ⟨g1, _⟩
  exact (nokid n hn e he h1 hk2 c hc).2 ((kid_iff V hc hn).1 g1)
 have partsN : ∀ c ∈ SN l, c.f_parts ≠ [] := fun c hc => by
  obtain ⟨e, _, _, rfl⟩ := SN_ent V hc
  exact spl_ne _
 refine ⟨SN_cl V, fun n hn => ?_, fun n hn h0 => ?_, fun n hn m hm h0 => ?_, fun n hn => ?_, fun n hn => ?_, ?_, fun d hd h2 => ?_, fun n hn h2 => ?_, fun x hx => ?_⟩
 ·obtain ⟨e, he, hne, rfl⟩ := SN_ent V hn
  obtain ⟨h1, h2, h3⟩ := V.pathN he hne
  exact ⟨hne, spl_ne _, h3, h1⟩
 ·have hu := (kid_root V hn).1 h0
  obtain ⟨e, he, hne, rfl⟩ := SN_ent V hn
  rcases path_cases e.Path with ⟨_, _, _, h4⟩ | ⟨h1, h2, h3⟩
  ·exact h4.symm
  ·exact absurd hu (up_ne (V.pathN he hne).2.1 h1)
 ·have hu := (kid_iff V hn hm).1 h0
  obtain ⟨e, he, hne, rfl⟩ := SN_ent V hn
  rcases path_cases e.Path with ⟨_, _, h3, h4⟩ | ⟨h1, h2, h3⟩
  ·obtain ⟨f, hf, hnf, rfl⟩ := SN_ent V hm
   exact absurd (by rw [← hu]; exact h3 : (nm f).f_path = []) hnf
  ·rw [← hu]; exact h3
 ·obtain ⟨e, he, h1, h6, h2, h3, h4, h5⟩ := SN_node V hn
  exact H.rng _ _ h4
 ·obtain ⟨e, he, h1, h6, h2, h3, h4, h5⟩ := SN_node V hn
  rw [h5]
  unfold kidR
  show _ = List.map (kidO (inosN l)) _
  by_cases hk : e.Kind = 2
  ·rw [h3 hk]
   show List.map (kidO (inosN l)) _ = _
   congr 1
   unfold kidsOf
   refine List.filter_congr fun c hc => ?_
   have := kid_iff V hc hn
   have hp := partsN c hc
   simp only [decide_eq_decide]
   exact ⟨fun h => ⟨this.2 h, hp⟩, fun h => this.1 h.1⟩
  ·rw [kidsNil n hn (fun q => hk (by rw [← q, bas_kind V h2]; rfl)), List.filter_eq_nil_iff.2 fun c hc => by rw [decide_eq_true_eq]; exact (nokid n hn e he h1 hk c hc).1]
   rfl
 ·obtain ⟨x, q1, q2, q3⟩ := H.nod _ _ H.rt
  refine ⟨x, q1, ?_⟩
  rw [q3]
  unfold kidR
  show List.map (kidO (inosN l)) _ = _
  congr 1
  unfold kidsOf
  refine List.filter_congr fun c hc => ?_
  have := kid_root V hc
  have hp := partsN c hc
  simp only [decide_eq_decide]
  exact ⟨fun h => ⟨this.2 h, hp⟩, fun h => this.1 h.1⟩
 ·obtain ⟨e, he, h1, h6, h2', h3, h4, h5⟩ := SN_node V hd
  have hk : e.Kind = 2 := by rw [← h2, bas_kind V h2']; rfl
  refine ⟨fun h0 => ?_, fun x hx hxe => ?_⟩
  ·rw [h0] at h4
   have := H.inj _ _ _ h4 H.rt
   obtain ⟨e2, _, _, _, g, _, _⟩ := SN_own V hd
   exact g this
  ·obtain ⟨f, hf, g1, g6, g2', g3, g4, g5⟩ := SN_node V hx
   rw [hxe] at g4
   have hof := H.inj _ _ _ g4 h4
   have hfe : f = e := V.inj hf he (by rw [g1, h1, hof])
   subst hfe
   have hpp : x.f_path = d.f_path := by rw [← g3 hk, ← h3 hk, hof]
   obtain ⟨a, ha, _, rfl⟩ := SN_ent V hx
   obtain ⟨b, hb, _, rfl⟩ := SN_ent V hd
   rw [V.inj ha hb hpp]
 ·rw [(SN_cl V).below_eq, kidsNil n hn h2]
  rfl
 ·obtain ⟨j, hj⟩ := get_of_mem hx
  obtain ⟨K, hK⟩ := H.ono j (lt_of_get hj)
  obtain ⟨y, q1, q2, q3⟩ := H.nod _ _ hK
  rw [Int.toNat_natCast, hj] at q1
  cases q1
  have key : ∀ e : TApiEntry, FOk e.Kind e.Mode e.Uid e.Gid e.Time e.Size e.Data e.Target e.Dev e.Attrs → e.Data.length ≤ 80000 → bas x = bas (nodeN e) → tree_attrs x.Attrs = some x.Attrs ∧ x.Data.length ≤ 80000 := by
   intro e fo hd hb
   have ha : x.Attrs = attrsN e.Attrs := by have := congrArg TApiNode.Attrs hb; exact this
   have hdd : x.Data = if e.Kind = 1 then trimN e.Data else [] := by have := congrArg TApiNode.Data hb; exact this
   rw [ha, hdd]
   refine ⟨?_, ?_⟩
   ·rw [tree_attrs_eq (by rw [attrsN_len]; exact fo.al) (fun a ha => (fo.av a (attrsN_mem.1 ha)).2) (attrsN_ad fo.ad), attrsN_idem fo.ad]
   ·split
    ·exact Nat.le_trans (trimN_len _) hd
    ·simp
  unfold ndR at q2
  split at q2
  ·obtain ⟨r1, r2, _⟩ := V.root_fok
   exact key _ r1 r2 q2
  ·rename_i hKn
   rcases H.key K _ hK with e | ⟨n, hn, e⟩
   ·exact absurd e hKn
   ·obtain ⟨e2, he, h1, h6, _, h3, _⟩ := SN_own V hn
    rw [← e, h3] at q2
    exact key e2 (V.fok he h6) (V.data _ he) q2
end
end Go.Proofs.YtkleajhiihbefaaGreatDoor.F
namespace Go.Proofs.YtkleajhiihbefaaGreatDoor.F
open Go Go.RowKit Go.Proofs.YtkleajhiihbefaaGreatDoor.K Go.Proofs.YtkleajhiihbefaaGreatDoor.K.E
section
variable (S : List TTreeNamed) (inos : Inos) (b : List TApiNode)
def rep (n : TTreeNamed) : TTreeNamed := (S.find? (fun m => iO inos m == iO inos n)).getD n
def entO (n : TTreeNamed) : TApiEntry := if (rep S inos n).f_path = n.f_path then fullEnt n.f_path (nO b inos n) else hardEnt n.f_path (rep S inos n).f_path
def rnm (n : TTreeNamed) : TTreeNamed := { f_parts := n.f_parts, f_path := n.f_path, f_of := (rep S inos n).f_path }
end
section
variable {S : List TTreeNamed} {inos : Inos}
theorem rep_some {n : TTreeNamed} (hn : n ∈ S) : ∃ m, S.find? (fun m => iO inos m == iO inos n) = some m ∧ m ∈ S ∧ iO inos m = iO inos n ∧ rep S inos n = m := by
 cases hf : S.find? (fun m => iO inos m == iO inos n) with
 | none => have := List.find?_eq_none.1 hf n hn; simp at this
 | some m => exact ⟨m, rfl, List.mem_of_find?_eq_some hf, by simpa using List.find?_some hf, by unfold rep; rw [hf]; rfl⟩
theorem rep_mem {n : TTreeNamed} (hn : n ∈ S) : rep S inos n ∈ S := by obtain ⟨m, _, h, _, e⟩ := rep_some (inos := inos) hn; rw [e]; exact h
theorem rep_iO {n : TTreeNamed} (hn : n ∈ S) : iO inos (rep S inos n) = iO inos n := by obtain ⟨m, _, _, h, e⟩ := rep_some (inos := inos) hn; rw [e]; exact h
theorem rep_eq {n m : TTreeNamed} (hn : n ∈ S) (hm : m ∈ S) (h : iO inos n = iO inos m) : rep S inos n = rep S inos m := by
 obtain ⟨a, ha, _, _, e⟩ := rep_some (inos := inos) hn
 obtain ⟨c, hc, _, _, e'⟩ := rep_some (inos := inos) hm
 rw [h] at ha
 rw [e, e']
 rw [ha] at hc
 exact Option.some.inj hc
theorem rep_rep {n : TTreeNamed} (hn : n ∈ S) : rep S inos (rep S inos n) = rep S inos n := rep_eq (rep_mem hn) hn (rep_iO hn)
end
section
variable {l : List TApiEntry} (V : VE l)
include V
theorem SN_path {a c : TTreeNamed} (ha : a ∈ SN l) (hc : c ∈ SN l) (h : a.f_path = c.f_path) : a = c := by
 obtain ⟨e, he, _, rfl⟩ := SN_ent V ha
 obtain ⟨f, hf, _, rfl⟩ := SN_ent V hc
 rw [V.inj he hf h]
theorem iO_ne {n : TTreeNamed} (hn : n ∈ SN l) : iO (inosN l) n ≠ 0 := by
 intro h0
 obtain ⟨e, he, h1, h6, h2', h3, h4, h5⟩ := SN_node V hn
 rw [h0] at h4
 have := (canon_FI V).inj _ _ _ h4 (canon_FI V).rt
 obtain ⟨e2, _, _, _, g, _, _⟩ := SN_own V hn
 exact g this
theorem iO_of {a c : TTreeNamed} (ha : a ∈ SN l) (hc : c ∈ SN l) : iO (inosN l) a = iO (inosN l) c ↔ a.f_of = c.f_of := by
 obtain ⟨_, _, _, _, _, _, h4, _⟩ := SN_node V ha
 obtain ⟨_, _, _, _, _, _, g4, _⟩ := SN_node V hc
 constructor
 ·intro h
  rw [h] at h4
  exact (canon_FI V).inj _ _ _ h4 g4
 ·intro h
  unfold iO
  rw [h]
noncomputable def listN (l : List TApiEntry) : List TApiEntry := fullEnt [] (((canonN l)[0]?).getD dN) :: (SN l).map (entO (SN l) (inosN l) (canonN l))
noncomputable def st0 (l : List TApiEntry) : LSt := (mput ([] : List (Int × List UInt8)) 0 [], [fullEnt [] (((canonN l)[0]?).getD dN)])
omit V in
theorem find_append' {α : Type} (p : α → Bool) (a c : List α) : (a ++ c).find? p = (a.find? p).or (c.find? p) := List.find?_append
theorem vis_inv : ∀ t, t ≤ (SN l).length → (∀ v, mget (((SN l).take t).foldl (vstep (canonN l) (inosN l)) (st0 l)).1 v = if v = 0 then some [] else (((SN l).take t).find? (fun m => iO (inosN l) m == v)).map (·.f_path)) ∧
  (((SN l).take t).foldl (vstep (canonN l) (inosN l)) (st0 l)).2 = fullEnt [] (((canonN l)[0]?).getD dN) :: ((SN l).take t).map (entO (SN l) (inosN l) (canonN l))
 | 0, _ => by
  refine ⟨fun v => ?_, rfl⟩
  show mget (mput ([] : List (Int × List UInt8)) 0 []) v = _
  rw [mget_put]
  rfl
 | t + 1, ht => by
  obtain ⟨h1, h2⟩ := vis_inv t (by omega)
  have hx : (SN l)[t]? = some (SN l)[t] := List.getElem?_eq_getElem (by omega)
  generalize hn : (SN l)[t] = n at hx
  have hnm : n ∈ SN l := mem_of_get hx
  have htk : (SN l).take (t + 1) = (SN l).take t ++ [n] := by rw [List.take_add_one, hx]; rfl
  have hv0 := iO_ne V hnm
  have hfull : SN l = (SN l).take t ++ (n :: (SN l).drop (t + 1)) := by
   have h3 := List.take_append_drop t (SN l)
   rw [List.drop_eq_getElem_cons (by omega), hn] at h3
   exact h3.symm
  rw [htk, List.foldl_append, List.foldl_cons, List.foldl_nil]
  generalize hs : ((SN l).take t).foldl (vstep (canonN l) (inosN l)) (st0 l) = s at h1 h2
  have hm := h1 (iO (inosN l) n)
  rw [if_neg hv0] at hm
  have hfind : (SN l).find? (fun m => iO (inosN l) m == iO (inosN l) n) = (((SN l).take t).find? (fun m => iO (inosN l) m == iO (inosN l) n)).or (some n) := by
   conv => lhs; rw [hfull]
   rw [find_append', List.find?_cons_of_pos (by simp)]
  cases hf : ((SN l).take t).find? (fun m => iO (inosN l) m == iO (inosN l) n) with
  | none =>
   rw [hf] at hm hfind
   have hrep : rep (SN l) (inosN l) n = n := by unfold rep; rw [hfind]; rfl
   have hst : vstep (canonN l) (inosN l) s n = (mput s.1 (iO (inosN l) n) n.f_path, s.2 ++ [fullEnt n.f_path (nO (canonN l) (inosN l) n)]) := by unfold vstep; rw [hm]; rfl
   rw [hst]
   refine ⟨fun v => ?_, ?_⟩
   ·simp only
    rw [mget_put, find_append']
    by_cases hv : v = iO (inosN l) n
    ·rw [if_pos hv, if_neg (by rw [hv]; exact hv0), hv, hf, List.find?_cons_of_pos (by simp)]
     rfl
    ·rw [if_neg hv, h1 v]
     have : ([n] : List TTreeNamed).find? (fun m => iO (inosN l) m == v) = none := by
      rw [List.find?_cons_of_neg (by simpa using Ne.symm hv)]; rfl
     rw [this, Option.or_none]
   ·simp only
    rw [h2, List.map_append, List.map_cons, List.map_nil]
    have : entO (SN l) (inosN l) (canonN l) n = fullEnt n.f_path (nO (canonN l) (inosN l) n) := by unfold entO; rw [hrep, if_pos rfl]
    rw [this]
    rfl
  | some m =>
   rw [hf] at hm hfind
   have hrep : rep (SN l) (inosN l) n = m := by unfold rep; rw [hfind]; rfl
   have hst : vstep (canonN l) (inosN l) s n = (s.1, s.2 ++ [hardEnt n.f_path m.f_path]) := by unfold vstep; rw [hm]; rfl
   have hmt : m ∈ (SN l).take t := List.mem_of_find?_eq_some hf
   have hne : m.f_path ≠ n.f_path := by
    intro e
    have hmn := SN_path V (List.mem_of_mem_take hmt) hnm e
    have hs := SN_srt V
    rw [hfull] at hs
    have := (List.pairwise_append.1 hs).2.2 m hmt n (List.mem_cons_self ..)
    rw [hmn, nL_irr] at this
    cases this
   rw [hst]
   refine ⟨fun v => ?_, ?_⟩
   ·simp only
    rw [find_append', h1 v]
    by_cases hv : v = iO (inosN l) n
    ·rw [hv, hf]; rfl
    ·have : ([n] : List TTreeNamed).find? (fun m => iO (inosN l) m == v) = none := by
      rw [List.find?_cons_of_neg (by simpa using Ne.symm hv)]; rfl
     rw [this, Option.or_none]
   ·simp only
    rw [h2, List.map_append, List.map_cons, List.map_nil]
    have : entO (SN l) (inosN l) (canonN l) n = hardEnt n.f_path m.f_path := by unfold entO; rw [hrep, if_neg hne]
    rw [this]
    rfl
theorem lister_eq : ∃ f, tree_lister_add 70 (canonN l) [] [] 0 [] 0 = some (.inr (canonN l, f, listN l)) := by
 have W := canon_TF V
 have H := canon_FI V
 have hlen := SN_len V
 obtain ⟨x, hx0, hxk⟩ := W.root
 have hpos : 0 < (canonN l).length := lt_of_get hx0
 obtain ⟨a1, a2⟩ := W.att x (mem_of_get hx0)
 have hbn : below (SN l) [] = SN l := Cl.below_nil fun n hn => (W.pth n hn).2.1
 obtain ⟨v1, v2⟩ := vis_inv V (SN l).length (Nat.le_refl _)
 rw [List.take_length] at v1 v2
 refine ⟨((SN l).foldl (vstep (canonN l) (inosN l)) (st0 l)).1, ?_⟩
 have hst : (st0 l).2 = [] ++ [fullEnt [] x] := by unfold st0; rw [hx0]; rfl
 have hrun := W.kids_run (k := 69) (p := []) (P := []) (s := st0 l) hxk (by simp) (by simp) (by omega) (fun _ => rfl) (fun h => absurd rfl h) (fun n hn hnl s h1 h2 => W.dfs (by omega) 69 n hn (by rw [hnl]; simp) s h1 h2) (W.cl.so.filter _) (fun d hd h2 => by
  rw [hbn] at hd
  show mget (mput ([] : List (Int × List UInt8)) 0 []) _ = none
  rw [mget_put, if_neg (iO_ne V hd)]
  rfl) (by rw [hbn]; show 1 + _ ≤ _; omega)
 rw [hbn] at hrun
 have : tree_lister_add 70 (canonN l) [] [] 0 [] 0 = some (.inr (canonN l, ((SN l).foldl (vstep (canonN l) (inosN l)) (st0 l)).1, ((SN l).foldl (vstep (canonN l) (inosN l)) (st0 l)).2)) := by
  refine add_new (k := 69) (i := 0) (P := []) (d := 0) (s := ([], [])) (x := x) ⟨Int.le_refl _, by omega⟩ hx0 (by omega) (by simp) rfl a1 a2 ?_
  rw [hst] at hrun
  exact hrun
 rw [this, v2]
 rfl
omit V in
theorem FOk.full {e : TApiEntry} {x : TApiNode} {p : List UInt8} (fo : FOk e.Kind e.Mode e.Uid e.Gid e.Time e.Size e.Data e.Target e.Dev e.Attrs) (hb : bas x = bas (nodeN e)) : FOk (fullEnt p x).Kind (fullEnt p x).Mode (fullEnt p x).Uid (fullEnt p x).Gid (fullEnt p x).Time (fullEnt p x).Size (fullEnt p x).Data (fullEnt p x).Target (fullEnt p x).Dev (fullEnt p x).Attrs := by
 have h : (x.Kind, x.Mode, x.Uid, x.Gid, x.Time, x.Size, x.Data, x.Target, x.Dev, x.Attrs) = ((nodeN e).Kind, (nodeN e).Mode, (nodeN e).Uid, (nodeN e).Gid, (nodeN e).Time, (nodeN e).Size, (nodeN e).Data, (nodeN e).Target, (nodeN e).Dev, (nodeN e).Attrs) := by
  have := congrArg (fun x : TApiNode => (x.Kind, x.Mode, x.Uid, x.Gid, x.Time, x.Size, x.Data, x.Target, x.Dev, x.Attrs)) hb
  exact this
 simp only [Prod.mk.injEq] at h
 obtain ⟨g1, g2, g3, g4, g5, g6, g7, g8, g9, g10⟩ := h
 show FOk x.Kind x.Mode x.Uid x.Gid x.Time x.Size x.Data x.Target x.Dev x.Attrs
 rw [g1, g2, g3, g4, g5, g6, g7, g8, g9, g10]
 unfold nodeN nodeV
 simp only
 refine ⟨fo.m, fo.u, fo.g, fo.t, fun h => ?_, fun h => ?_, fun h => ?_, ?_, fun a ha => fo.av a (attrsN_mem.1 ha), attrsN_ad fo.ad⟩
 ·rw [if_pos h, if_pos h]
  have := fo.sz h
  have := trimN_len e.Data
  omega
 ·rw [if_pos h]; exact fo.tg h
 ·rw [if_neg (by omega)]; exact fo.dv h
 ·rw [attrsN_len]; exact fo.al
omit V in
theorem nodeN_full {e : TApiEntry} {x : TApiNode} {p : List UInt8} (fo : FOk e.Kind e.Mode e.Uid e.Gid e.Time e.Size e.Data e.Target e.Dev e.Attrs) (hb : bas x = bas (nodeN e)) : nodeN (fullEnt p x) = nodeN e := by
 have h : (x.Kind, x.Mode, x.Uid, x.Gid, x.Time, x.Size, x.Data, x.Target, x.Dev, x.Attrs) = ((nodeN e).Kind, (nodeN e).Mode, (nodeN e).Uid, (nodeN e).Gid, (nodeN e).Time, (nodeN e).Size, (nodeN e).Data, (nodeN e).Target, (nodeN e).Dev, (nodeN e).Attrs) := by
  have := congrArg (fun x : TApiNode => (x.Kind, x.Mode, x.Uid, x.Gid, x.Time, x.Size, x.Data, x.Target, x.Dev, x.Attrs)) hb
  exact this
 simp only [Prod.mk.injEq] at h
 obtain ⟨g1, g2, g3, g4, g5, g6, g7, g8, g9, g10⟩ := h
 show nodeV x.Kind x.Mode x.Uid x.Gid x.Time x.Size x.Data x.Target x.Dev x.Attrs = _
 rw [g1, g2, g3, g4, g5, g6, g7, g8, g9, g10]
 unfold nodeN nodeV
 simp only
 rw [attrsN_idem fo.ad]
 by_cases h1 : e.Kind = 1
 ·simp [h1, trimN_idem]
 ·by_cases h2 : e.Kind = 2
  ·simp [h2]
  ·by_cases h3 : e.Kind = 3
   ·simp [h3]
   ·simp [h1, h2, h3]
theorem root_bas : ∃ x, (canonN l)[0]? = some x ∧ bas x = bas (nodeN (rootE l)) := by
 obtain ⟨x, q1, q2, q3⟩ := (canon_FI V).nod _ _ (canon_FI V).rt
 exact ⟨x, q1, by rw [q2]; rfl⟩
theorem ent_path {n : TTreeNamed} : (entO (SN l) (inosN l) (canonN l) n).Path = n.f_path := by
 unfold entO
 split <;> rfl
theorem ent_full {n : TTreeNamed} (hn : n ∈ SN l) (h : rep (SN l) (inosN l) n = n) : ∃ e ∈ l, e.Path = n.f_of ∧ e.Kind ≠ 6 ∧ entO (SN l) (inosN l) (canonN l) n = fullEnt n.f_path (nO (canonN l) (inosN l) n) ∧ bas (nO (canonN l) (inosN l) n) = bas (nodeN e) ∧ (entO (SN l) (inosN l) (canonN l) n).Kind = e.Kind := by
 obtain ⟨e, he, h1, h6, h2, h3, h4, h5⟩ := SN_node V hn
 have h7 : entO (SN l) (inosN l) (canonN l) n = fullEnt n.f_path (nO (canonN l) (inosN l) n) := by unfold entO; rw [h, if_pos rfl]
 exact ⟨e, he, h1, h6, h7, h2, by rw [h7]; exact bas_kind V h2⟩
theorem ent_hard {n : TTreeNamed} (hn : n ∈ SN l) (h : rep (SN l) (inosN l) n ≠ n) : entO (SN l) (inosN l) (canonN l) n = hardEnt n.f_path (rep (SN l) (inosN l) n).f_path := by
 unfold entO
 rw [if_neg fun e => h (SN_path V (rep_mem hn) hn e)]
theorem rep_dir {x : TApiEntry} (hx : x ∈ l) (hn : nm x ∈ SN l) (h2 : x.Kind = 2) : rep (SN l) (inosN l) (nm x) = nm x := by
 have hof : (nm x).f_of = x.Path := by unfold nm; simp only [h2]; rfl
 obtain ⟨e, he, h1, h6, g2, h3, h4, h5⟩ := SN_node V hn
 have : e = x := V.inj he hx (by rw [h1, hof])
 subst this
 exact ((canon_TF V).dir1 (nm e) hn (by rw [bas_kind V g2]; exact h2)).2 _ (rep_mem hn) (rep_iO hn)
theorem list_ve (hl : l.length ≤ 60) : VE (listN l) := by
 have W := canon_TF V
 have hSl : (SN l).length ≤ 60 := by
  unfold SN
  rw [(isort_perm _ _).length_eq]
  unfold namesU
  rw [List.length_map]
  exact Nat.le_trans (List.length_filter_le _ _) hl
 obtain ⟨x0, q1, q2⟩ := root_bas V
 have hroot : (((canonN l)[0]?).getD dN) = x0 := by rw [q1]; rfl
 obtain ⟨r1, r2, r3⟩ := V.root_fok
 have hk0 : x0.Kind = 2 := by rw [bas_kind V q2]; exact r3
 have hents : ∀ e ∈ listN l, e = fullEnt [] x0 ∨ ∃ n ∈ SN l, e = entO (SN l) (inosN l) (canonN l) n := by
  intro e he
  unfold listN at he
  rw [hroot] at he
  rcases List.mem_cons.1 he with h | h
  ·exact Or.inl h
  ·obtain ⟨n, hn, rfl⟩ := List.mem_map.1 h
   exact Or.inr ⟨n, hn, rfl⟩
 have hin : ∀ n ∈ SN l, entO (SN l) (inosN l) (canonN l) n ∈ listN l := fun n hn => List.mem_cons_of_mem _ (List.mem_map_of_mem hn)
 have hpw : (listN l).Pairwise (fun a c => a.Path ≠ c.Path) := by
  unfold listN
  rw [List.pairwise_cons, List.pairwise_map]
  refine ⟨fun e he => ?_, (SN_srt V).imp_of_mem ?_⟩
  ·obtain ⟨n, hn, rfl⟩ := List.mem_map.1 he
   rw [ent_path V]
   exact Ne.symm (W.pth n hn).1
  ·intro a c ha hc h
   rw [ent_path V, ent_path V]
   intro e
   rw [SN_path V ha hc e, nL_irr] at h
   cases h
 refine ⟨by unfold listN; rw [List.length_cons, List.length_map]; omega, fun e he => ?_, fun i e hi => ?_⟩
 ·rcases hents e he with rfl | ⟨n, hn, rfl⟩
  ·show x0.Data.length ≤ 80000
   have : x0.Data = (nodeN (rootE l)).Data := by have := congrArg TApiNode.Data q2; exact this
   rw [this]
   unfold nodeN nodeV
   simp only
   rw [if_neg (by omega)]
   simp
  ·unfold entO
   split
   ·exact (W.att _ (W.nod hn).2).2
   ·simp [hardEnt]
 ·have he := mem_of_get hi
  refine ⟨?_, ?_, fun k x hk hx => ?_, ?_, fun h6 => ?_, fun h6 => ?_⟩
  ·rcases hents e he with rfl | ⟨n, hn, rfl⟩
   ·show 1 ≤ x0.Kind ∧ x0.Kind ≤ 6
    omega
   ·by_cases h : rep (SN l) (inosN l) n = n
    ·obtain ⟨e, he, _, _, _, _, hk⟩ := ent_full V hn h
     rw [hk]; exact V.kindE he
    ·rw [ent_hard V hn h]; show (1 : Int) ≤ 6 ∧ (6 : Int) ≤ 6; decide
  ·rcases hents e he with rfl | ⟨n, hn, rfl⟩
   ·exact Or.inl ⟨rfl, hk0⟩
   ·rw [ent_path V]
    obtain ⟨f, hf, hnf, rfl⟩ := SN_ent V hn
    exact Or.inr ⟨hnf, V.pathN hf hnf⟩
  ·rw [List.pairwise_iff_getElem] at hpw
   obtain ⟨h1, rfl⟩ := List.getElem?_eq_some_iff.1 hx
   obtain ⟨h2, rfl⟩ := List.getElem?_eq_some_iff.1 hi
   exact hpw k i h1 h2 hk
  ·rcases hents e he with rfl | ⟨n, hn, rfl⟩
   ·exact Or.inl rfl
   ·rw [ent_path V]
    by_cases hu : upP n.f_path = []
    ·exact Or.inl hu
    ·obtain ⟨x, hx, g1, g2, g3⟩ := up_dir V hn hu
     refine Or.inr ⟨_, hin _ g3, by rw [ent_path V]; exact g1, ?_⟩
     obtain ⟨f, hf, f1, _, _, _, f2⟩ := ent_full V g3 (rep_dir V hx g3 g2)
     rw [f2]
     have : (nm x).f_of = x.Path := by unfold nm; simp only [g2]; rfl
     rw [V.inj hf hx (by rw [f1, this])]
     exact g2
  ·rcases hents e he with rfl | ⟨n, hn, rfl⟩
   ·have : x0.Kind = 6 := h6
    omega
   ·by_cases h : rep (SN l) (inosN l) n = n
    ·obtain ⟨e, he, _, hn6, _, _, hk⟩ := ent_full V hn h
     rw [hk] at h6
     exact absurd h6 hn6
    ·rw [ent_hard V hn h]
     have hm := rep_mem (inos := inosN l) hn
     obtain ⟨e, he, e1, e6, e2, e3, e4⟩ := ent_full V hm (rep_rep hn)
     refine ⟨_, hin _ hm, ent_path V, ?_⟩
     rw [e4]
     have hk := V.kindE he
     refine ⟨hk.1, by omega, fun h2 => h ?_⟩
     exact (((canon_TF V).dir1 _ hm (by rw [bas_kind V e3]; exact h2)).2 n hn (rep_iO hn).symm).symm
  ·rcases hents e he with rfl | ⟨n, hn, rfl⟩
   ·exact FOk.full r1 q2
   ·by_cases h : rep (SN l) (inosN l) n = n
    ·obtain ⟨e, he, e1, e6, e2, e3, e4⟩ := ent_full V hn h
     rw [e2]
     exact FOk.full (V.fok he e6) e3
    ·rw [ent_hard V hn h] at h6
     exact absurd rfl h6
end
end Go.Proofs.YtkleajhiihbefaaGreatDoor.F
namespace Go.Proofs.YtkleajhiihbefaaGreatDoor.F
open Go Go.RowKit Go.Proofs.YtkleajhiihbefaaGreatDoor.K Go.Proofs.YtkleajhiihbefaaGreatDoor.K.E
section
variable {l : List TApiEntry} (V : VE l)
include V
theorem nm_ent {n : TTreeNamed} (hn : n ∈ SN l) : nm (entO (SN l) (inosN l) (canonN l) n) = rnm (SN l) (inosN l) n := by
 obtain ⟨f, hf, hnf, he⟩ := SN_ent V hn
 have hp : n.f_parts = spl n.f_path := by rw [he]; rfl
 by_cases h : rep (SN l) (inosN l) n = n
 ·obtain ⟨e, he, e1, e6, e2, e3, e4⟩ := ent_full V hn h
  unfold nm rnm
  rw [e4, if_neg e6, ent_path V, h, hp]
 ·rw [ent_hard V hn h]
  unfold nm rnm hardEnt
  simp only [if_true]
  rw [hp]
theorem names_list : namesU (listN l) = (SN l).map (rnm (SN l) (inosN l)) := by
 have W := canon_TF V
 unfold namesU listN
 rw [List.filter_cons_of_neg (by simp [fullEnt]), List.filter_eq_self.2 fun e he => by
  obtain ⟨n, hn, rfl⟩ := List.mem_map.1 he
  rw [ent_path V]
  simpa using (W.pth n hn).1, List.map_map]
 refine List.map_congr_left fun n hn => ?_
 exact nm_ent V hn
theorem SN_list (hl : l.length ≤ 60) : SN (listN l) = (SN l).map (rnm (SN l) (inosN l)) := by
 have V2 := list_ve V hl
 unfold SN
 have hn := names_list V
 rw [show isort (ltC cmpN) (namesU l) = SN l from rfl]
 rw [hn]
 refine isort_id (key := fun n : TTreeNamed => n.f_parts) pL_sto (fun x hx y hy => ?_) ?_
 ·exact SN_lt V2 (by rw [hn]; exact hx) (by rw [hn]; exact hy)
 ·rw [List.pairwise_map]
  exact SN_srt V
structure RI (inos' inos : Inos) : Prop where
 at_ : ∀ n ∈ SN l, mget inos' (rep (SN l) (inosN l) n).f_path = mget inos n.f_of
 rt : mget inos' [] = mget inos []
theorem fold_sim {nd nd' : List UInt8 → TApiNode} (hnd : ∀ n ∈ SN l, nd' (rep (SN l) (inosN l) n).f_path = nd n.f_of) : ∀ (X : List TTreeNamed) (inos inos' : Inos) (b : List TApiNode), (∀ n ∈ X, n ∈ SN l) → RI (l := l) inos' inos → (((X.map (rnm (SN l) (inosN l))).foldl (cstep nd') (inos', b)).2 = (X.foldl (cstep nd) (inos, b)).2)
 | [], inos, inos', b, _, _ => rfl
 | n :: X, inos, inos', b, hX, H => by
  have hn := hX n (List.mem_cons_self ..)
  rw [List.map_cons, List.foldl_cons, List.foldl_cons]
  have hof : (rnm (SN l) (inosN l) n).f_of = (rep (SN l) (inosN l) n).f_path := rfl
  have hr := H.at_ n hn

  have key : ∀ (i1 i2 : Inos) (ino : Int) (b1 : List TApiNode), RI (l := l) i2 i1 → c3 (c2 (i2, ino, b1) (rnm (SN l) (inosN l) n)) ino (parO i2 (rnm (SN l) (inosN l) n)) = c3 (c2 (i1, ino, b1) n) ino (parO i1 n) := by
   intro i1 i2 ino b1 H2
   have hpar : parO i2 (rnm (SN l) (inosN l) n) = parO i1 n := by
    show (mget i2 (upP n.f_path)).getD 0 = (mget i1 (upP n.f_path)).getD 0
    by_cases hu : upP n.f_path = []
    ·rw [hu, H2.rt]
    ·obtain ⟨x, hx, g1, g2, g3⟩ := up_dir V hn hu
     have := H2.at_ _ g3
     rw [rep_dir V hx g3 g2] at this
     have hof : (nm x).f_of = x.Path := by unfold nm; simp only [g2]; rfl
     rw [hof, show (nm x).f_path = x.Path from rfl, g1] at this
     rw [this]
   unfold c2
   simp only
   rw [hpar]
   rfl
  unfold cstep c1
  simp only
  rw [hof, hr]
  cases hK : mget inos n.f_of with
  | some v =>
   simp only [Option.isSome_some, if_true, Option.getD_some]
   rw [key inos inos' v b H]
   exact fold_sim hnd X _ _ _ (fun m hm => hX m (List.mem_cons_of_mem _ hm)) H
  | none =>
   simp only [Option.isSome_none, Bool.false_eq_true, if_false]
   rw [hnd n hn]
   have H2 : RI (l := l) (mput inos' (rep (SN l) (inosN l) n).f_path (b.length : Int)) (mput inos n.f_of (b.length : Int)) := by
    refine ⟨fun m hm => ?_, ?_⟩
    ·rw [mget_put, mget_put, H.at_ m hm]
     have hiff : (rep (SN l) (inosN l) m).f_path = (rep (SN l) (inosN l) n).f_path ↔ m.f_of = n.f_of := by
      rw [← iO_of V hm hn]
      constructor
      ·intro e
       have := SN_path V (rep_mem hm) (rep_mem hn) e
       rw [← rep_iO (inos := inosN l) hm, this, rep_iO hn]
      ·intro e
       rw [rep_eq hm hn e]
     by_cases e : m.f_of = n.f_of
     ·rw [if_pos e, if_pos (hiff.2 e)]
     ·rw [if_neg e, if_neg fun h => e (hiff.1 h)]
    ·obtain ⟨_, _, _, _, g, _, _⟩ := SN_own V hn
     have g2 : (rep (SN l) (inosN l) n).f_path ≠ [] := ((canon_TF V).pth _ (rep_mem hn)).1
     rw [mget_put, mget_put, if_neg (Ne.symm g2), if_neg (Ne.symm g)]
     exact H.rt
   rw [key _ _ _ _ H2]
   exact fold_sim hnd X _ _ _ (fun m hm => hX m (List.mem_cons_of_mem _ hm)) H2
theorem canon_list (hl : l.length ≤ 60) : canonN (listN l) = canonN l := by
 have V2 := list_ve V hl
 obtain ⟨x0, q1, q2⟩ := root_bas V
 have hroot : (((canonN l)[0]?).getD dN) = x0 := by rw [q1]; rfl
 obtain ⟨r1, r2, r3⟩ := V.root_fok
 have hre : rootE (listN l) = fullEnt [] x0 := by
  unfold rootE
  have : ixI (fun e : TApiEntry => e.Path == []) (listN l) = 0 := by
   unfold ixI listN
   rw [firstQ]
   simp [fullEnt]
  rw [this, if_neg (by decide)]
  unfold listN
  rw [hroot]
  rfl
 rw [canonN_fold V2, canonN_fold V, SN_list V hl, hre, nodeN_full r1 q2]
 refine fold_sim V (fun n hn => ?_) (SN l) _ _ _ (fun n hn => hn) ⟨fun n hn => ?_, rfl⟩
 ·have hm := rep_mem (inos := inosN l) hn
  obtain ⟨e, he, e1, e6, e2, e3, e4⟩ := ent_full V hm (rep_rep hn)
  have hin : entO (SN l) (inosN l) (canonN l) (rep (SN l) (inosN l) n) ∈ listN l := List.mem_cons_of_mem _ (List.mem_map_of_mem hm)
  have h1 := V2.ndOf hin (by rw [e4]; exact e6)
  rw [ent_path V] at h1
  rw [h1, e2, nodeN_full (V.fok he e6) e3]
  obtain ⟨e', he', g1, g6, g2, g3, _⟩ := SN_own V hn
  have hof : (rep (SN l) (inosN l) n).f_of = n.f_of := (iO_of V hm hn).1 (rep_iO hn)
  rw [g3, V.inj he he' (by rw [e1, g1, hof])]
 ·obtain ⟨_, _, _, _, g, _, _⟩ := SN_own V hn
  have g2 : (rep (SN l) (inosN l) n).f_path ≠ [] := ((canon_TF V).pth _ (rep_mem hn)).1
  rw [mget_put, mget_put, if_neg g2, if_neg g]
  rfl
end
end Go.Proofs.YtkleajhiihbefaaGreatDoor.F
namespace Go.Proofs.YtkleajhiihbefaaGreatDoor.F
open Go Go.RowKit Go.Proofs.YtkleajhiihbefaaGreatDoor.K Go.Proofs.YtkleajhiihbefaaGreatDoor.K.E
theorem u8i_lt (c d : UInt8) : decide ((c.toNat : Int) < (d.toNat : Int)) = u8lt c d := by
 unfold u8lt
 by_cases h : c < d
 ·have := UInt8.lt_iff_toNat_lt.1 h
  rw [dT h, dT (by omega)]
 ·have : ¬ c.toNat < d.toNat := fun g => h (UInt8.lt_iff_toNat_lt.2 g)
  rw [dF h, dF (by omega)]
theorem u8i_gt (c d : UInt8) : decide ((c.toNat : Int) > (d.toNat : Int)) = u8lt d c := u8i_lt d c
theorem cmpS_cons (c d : UInt8) (a b : List UInt8) : cmpS (c :: a) (d :: b) = if u8lt c d = true then -1 else if u8lt d c = true then 1 else cmpS a b := by
 have h1 : ltB (c :: a) (d :: b) = (u8lt c d || (!u8lt d c && ltB a b)) := by rw [ltB_lex, ltB_lex a b]; rfl
 unfold cmpS
 rw [h1]
 cases h2 : u8lt c d with
 | true => rfl
 | false =>
  cases h3 : u8lt d c with
  | true =>
   have : c ≠ d := fun e => by rw [e, u8_sto.irr] at h3; cases h3
   simp [this]
  | false =>
   have := u8_sto.tot c d h2 h3
   subst this
   simp
theorem ref_text_eq {a b : List UInt8} (ha : a.length ≤ 100000000) (hb : b.length ≤ 100000000) : ref10_text a b = some (cmpS a b) := by
 have key : ∀ (a' b' : List UInt8) (t : Nat), a.length = t + a'.length → b.length = t + b'.length → a.drop t = a' → b.drop t = b' →
   bnd (loopO (fun s => ref10_text_l1 a b s) (t : Int)) (fun _ => (Option.bind (ref10_length (a.length : Int) (b.length : Int)) fun r => some r)) = some (cmpS a' b') := by
  intro a'
  induction a' with
  | nil =>
   intro b' t h1 h2 h3 h4
   simp only [List.length_nil] at h1
   rw [loop_end (r := .inl ()) (by unfold ref10_text_l1; rw [dF (show ¬ ((t : Int) < (a.length : Int)) by omega)]; rfl), bI]
   unfold ref10_length
   cases b' with
   | nil => simp only [List.length_nil] at h2; rw [dF (by omega), dF (by omega)]; rfl
   | cons y b' => simp only [List.length_cons] at h2; rw [dT (by omega)]; rfl
  | cons x a' ih =>
   intro b' t h1 h2 h3 h4
   simp only [List.length_cons] at h1
   have hx : a[t]? = some x := by
    have := congrArg (·[0]?) h3
    simpa using this
   cases b' with
   | nil =>
    simp only [List.length_nil] at h2
    rw [loop_end (r := .inl ()) (by unfold ref10_text_l1; rw [dT (show ((t : Int) < (a.length : Int)) by omega), dF (show ¬ ((t : Int) < (b.length : Int)) by omega)]; rfl), bI]
    unfold ref10_length
    rw [dF (by omega), dT (by omega)]
    rfl
   | cons y b' =>
    simp only [List.length_cons] at h2
    have hy : b[t]? = some y := by
     have := congrArg (·[0]?) h4
     simpa using this
    have hstep : ref10_text_l1 a b (t : Int) = some (if u8lt x y = true then .inr (.inr (-1)) else if u8lt y x = true then .inr (.inr 1) else .inl ((t + 1 : Nat) : Int)) := by
     unfold ref10_text_l1
     rw [dT (show ((t : Int) < (a.length : Int)) by omega), dT (show ((t : Int) < (b.length : Int)) by omega), cond_true, bI, cond_true, idx_ok hx, idx_ok hy]
     simp only [Option.bind_some, u8i_lt, u8i_gt]
     rw [w1 (by omega)]
     cases u8lt x y <;> cases u8lt y x <;> rfl
    rw [cmpS_cons]
    cases h5 : u8lt x y with
    | true => rw [h5] at hstep; rw [loop_end hstep]; rfl
    | false =>
     rw [h5] at hstep
     cases h6 : u8lt y x with
     | true => rw [h6] at hstep; rw [loop_end hstep]; rfl
     | false =>
      rw [h6] at hstep
      rw [loop_next hstep]
      exact ih b' (t + 1) (by omega) (by omega) (by rw [← List.drop_drop, h3]; rfl) (by rw [← List.drop_drop, h4]; rfl)
 unfold ref10_text
 have := key a b 0 (by omega) (by omega) rfl rfl
 rw [show ((0 : Nat) : Int) = 0 from rfl] at this
 exact this
theorem ref_Order_eq {a b : List (List UInt8)} (ha : a.length ≤ 100000000) (hb : b.length ≤ 100000000) (hx : ∀ p ∈ a, p.length ≤ 100000000) (hy : ∀ p ∈ b, p.length ≤ 100000000) : ref10_Order a b = some (cmpLL a b) := by
 have key : ∀ (a' b' : List (List UInt8)) (t : Nat), a.length = t + a'.length → b.length = t + b'.length → a.drop t = a' → b.drop t = b' →
   bnd (loopO (fun s => ref10_Order_l1 a b s) (t : Int)) (fun _ => (Option.bind (ref10_length (a.length : Int) (b.length : Int)) fun r1 => some r1)) = some (cmpLL a' b') := by
  intro a'
  induction a' with
  | nil =>
   intro b' t h1 h2 h3 h4
   simp only [List.length_nil] at h1
   rw [loop_end (r := .inl ()) (by unfold ref10_Order_l1; rw [dF (show ¬ ((t : Int) < (a.length : Int)) by omega)]; rfl), bI]
   unfold ref10_length
   cases b' with
   | nil => simp only [List.length_nil] at h2; rw [dF (by omega), dF (by omega)]; rfl
   | cons y b' => simp only [List.length_cons] at h2; rw [dT (by omega)]; rfl
  | cons x a' ih =>
   intro b' t h1 h2 h3 h4
   simp only [List.length_cons] at h1
   have hxa : a[t]? = some x := by
    have := congrArg (·[0]?) h3
    simpa using this
   cases b' with
   | nil =>
    simp only [List.length_nil] at h2
    rw [loop_end (r := .inl ()) (by unfold ref10_Order_l1; rw [dT (show ((t : Int) < (a.length : Int)) by omega), dF (show ¬ ((t : Int) < (b.length : Int)) by omega)]; rfl), bI]
    unfold ref10_length
    rw [dF (by omega), dT (by omega)]
    rfl
   | cons y b' =>
    simp only [List.length_cons] at h2
    have hyb : b[t]? = some y := by
     have := congrArg (·[0]?) h4
     simpa using this
    have hstep : ref10_Order_l1 a b (t : Int) = some (if x = y then .inl ((t + 1 : Nat) : Int) else .inr (.inr (cmpS x y))) := by
     unfold ref10_Order_l1
     rw [dT (show ((t : Int) < (a.length : Int)) by omega), dT (show ((t : Int) < (b.length : Int)) by omega), cond_true, bI, cond_true, idx_ok hxa, idx_ok hyb]
     simp only [Option.bind_some]
     rw [ref_text_eq (hx _ (mem_of_get hxa)) (hy _ (mem_of_get hyb)), Option.bind_some, cmpS_ne, w1 (by omega)]
     by_cases e : x = y
     ·rw [if_pos e, dF (by simpa using e)]; rfl
     ·rw [if_neg e, dT e]; rfl
    unfold cmpLL
    by_cases e : x = y
    ·rw [if_pos e] at hstep ⊢
     rw [loop_next hstep]
     exact ih b' (t + 1) (by omega) (by omega) (by rw [← List.drop_drop, h3]; rfl) (by rw [← List.drop_drop, h4]; rfl)
    ·rw [if_neg e] at hstep ⊢
     rw [loop_end hstep]
     rfl
 unfold ref10_Order
 have := key a b 0 (by omega) (by omega) rfl rfl
 rw [show ((0 : Nat) : Int) = 0 from rfl] at this
 exact this
theorem spl_byte {c : UInt8} : ∀ {x : List UInt8}, c ∈ x → c = 47 ∨ ∃ p ∈ spl x, c ∈ p
 | d :: x, h => by
  rw [spl_cons]
  by_cases hd : d = 47
  ·rw [if_pos hd]
   rcases List.mem_cons.1 h with e | h
   ·exact Or.inl (by rw [e, hd])
   ·exact (spl_byte h).imp id fun ⟨p, hp, h⟩ => ⟨p, List.mem_cons_of_mem _ hp, h⟩
  ·rw [if_neg hd]
   cases hs : spl x with
   | nil => exact absurd hs (spl_ne x)
   | cons p r =>
    rcases List.mem_cons.1 h with e | h
    ·exact Or.inr ⟨d :: p, List.mem_cons_self .., by rw [e]; exact List.mem_cons_self ..⟩
    ·rcases spl_byte h with e | ⟨q, hq, h⟩
     ·exact Or.inl e
     ·rw [hs] at hq
      rcases List.mem_cons.1 hq with e | hq
      ·exact Or.inr ⟨d :: p, List.mem_cons_self .., by rw [← e]; exact List.mem_cons_of_mem _ h⟩
      ·exact Or.inr ⟨q, List.mem_cons_of_mem _ hq, h⟩
theorem vN_all {p : List UInt8} (h : vN p = true) : p.length ≤ 255 ∧ (0 : UInt8) ∉ p ∧ keepP p = true := by
 unfold vN at h
 simp only [Bool.and_eq_true, decide_eq_true_eq] at h
 obtain ⟨h1, h2, h3, h4, h5, h6⟩ := h
 refine ⟨by omega, by simpa using h6, by unfold keepP; rw [h1, h3]; rfl⟩
theorem rSplit_good {x : List UInt8} (h1 : x.length ≤ 4096) (h2 : ∀ p ∈ spl x, vN p = true) (h3 : (spl x).length ≤ 64) : ref10_Split x = some (spl x, 0) := by
 have hz : ∀ c ∈ x, c ≠ 0 := fun c hc e => by
  subst e
  rcases spl_byte hc with e | ⟨p, hp, h⟩
  ·cases e
  ·exact (vN_all (h2 p hp)).2.1 h
 have hk : (spl x).filter keepP = spl x := List.filter_eq_self.2 fun p hp => (vN_all (h2 p hp)).2.2
 unfold ref10_Split
 rw [dF (by omega), cond_false]
 have e1 := loop_first x (fun s => ref10_Split_l1 x s) (fun t => (t : Int)) (fun _ c => if c = 0 then some (.inr ([], 6)) else none) (.inl ()) (fun t c hc => by
   have := lt_of_get hc
   unfold ref10_Split_l1
   rw [dT (by omega), idx_ok hc, cond_true, Option.bind_some, u8_0, w1 (by omega)]
   by_cases h : c = 0
   ·rw [dT h, if_pos h]; rfl
   ·rw [dF h, if_neg h]; rfl) (by unfold ref10_Split_l1; rw [dF (by omega)]; rfl)
 have e1' : loopO (fun s => ref10_Split_l1 x s) (0 : Int) = _ := e1
 rw [e1', firstQ_none.2 fun t c hc => by rw [if_neg (hz c (mem_of_get hc))]]
 simp only [Option.getD_none, bI]
 obtain ⟨r, e2, e3⟩ := rSplit2 (x := x) (by omega) x [] [] [] rfl (by simp) (by simp; omega)
 have e2' : loopO (fun s : List (List UInt8) × Int × Int => ref10_Split_l2 x s.1 s.2.1 s.2.2) (([], 0, 0) : List (List UInt8) × Int × Int) = some r := e2
 rw [e2']
 rcases e3 with ⟨_, p, hp, hp2⟩ | rfl
 ·have := (vN_all (h2 p (by simpa using hp))).1
  omega
 ·simp only [bI, List.nil_append]
  rw [hk, dF (by omega)]
  rfl
def ixP (l : List TApiEntry) (p : List UInt8) : Nat := l.findIdx (fun e => e.Path == p)
section
variable {l : List TApiEntry} (V : PE l)
include V
omit V in
theorem findIdx_of {α : Type} {p : α → Bool} : ∀ {l : List α} {i : Nat} {x : α}, l[i]? = some x → p x = true → (∀ j y, j < i → l[j]? = some y → p y = false) → l.findIdx p = i
 | [], i, x, h, _, _ => by simp at h
 | a :: l, 0, x, h, hp, _ => by
  simp only [List.getElem?_cons_zero, Option.some.injEq] at h
  subst h
  rw [List.findIdx_cons, hp]
  rfl
 | a :: l, i + 1, x, h, hp, hn => by
  have h0 := hn 0 a (Nat.succ_pos _) rfl
  rw [List.findIdx_cons, h0, cond_false, findIdx_of (l := l) (i := i) (by simpa using h) hp fun j y hj hy => hn (j + 1) y (by omega) (by simpa using hy)]
theorem ixP_ofP {i : Nat} {e : TApiEntry} (h : l[i]? = some e) : ixP l e.Path = i :=
 findIdx_of h (by simp) fun j y hj hy => by simpa using V.dist i e h j y hj hy
noncomputable def ordN (l : List TApiEntry) : List Int := (SN l).map (fun n => ((ixP l n.f_path : Nat) : Int))
def RemA (l : List TApiEntry) (done : List Bool) (j : Nat) : Prop := ∃ e, l[j]? = some e ∧ e.Path ≠ [] ∧ done[j]? = some false
omit V in
theorem best_loopP {done : List Bool} (hd : done.length = l.length) (V : PE l) : ∃ best : Int, loopO (fun s : Int × List (List UInt8) × Int => ref11_Order_l2 l done s.1 s.2.1 s.2.2) (-1, [], 0) = some (.inl best) ∧ ((best = -1 ∧ ∀ j, ¬ RemA l done j) ∨ ∃ (j0 : Nat) (e0 : TApiEntry), best = (j0 : Int) ∧ l[j0]? = some e0 ∧ RemA l done j0 ∧ ∀ j e, l[j]? = some e → RemA l done j → pL (spl e.Path) (spl e0.Path) = false) := by
 have hl := V.len
 have := loop_inv (body := fun s : Int × List (List UInt8) × Int => ref11_Order_l2 l done s.1 s.2.1 s.2.2) l.length (fun t s => s.2.2 = (t : Int) ∧ ((s.1 = -1 ∧ s.2.1 = [] ∧ ∀ j, j < t → ¬ RemA l done j) ∨ ∃ (j0 : Nat) (e0 : TApiEntry), s.1 = (j0 : Int) ∧ s.2.1 = spl e0.Path ∧ l[j0]? = some e0 ∧ RemA l done j0 ∧ ∀ j e, j < t → l[j]? = some e → RemA l done j → pL (spl e.Path) (spl e0.Path) = false)) (fun r => ∃ best : Int, r = .inl best ∧ ((best = -1 ∧ ∀ j, ¬ RemA l done j) ∨ ∃ (j0 : Nat) (e0 : TApiEntry), best = (j0 : Int) ∧ l[j0]? = some e0 ∧ RemA l done j0 ∧ ∀ j e, l[j]? = some e → RemA l done j → pL (spl e.Path) (spl e0.Path) = false)) (by
  rintro t ⟨best, at_, k⟩ ht ⟨hk, hI⟩
  simp only at hk hI
  subst hk
  have hx : l[t]? = some l[t] := List.getElem?_eq_getElem ht
  generalize l[t] = e at hx
  have hdx : done[t]? = some done[t] := List.getElem?_eq_getElem (by omega)
  generalize done[t] = dt at hdx
  have he := mem_of_get hx
  refine Or.inl ?_

  have skip : ¬ RemA l done t → (((best = -1 ∧ at_ = [] ∧ ∀ j, j < t + 1 → ¬ RemA l done j) ∨ ∃ (j0 : Nat) (e0 : TApiEntry), best = (j0 : Int) ∧ at_ = spl e0.Path ∧ l[j0]? = some e0 ∧ RemA l done j0 ∧ ∀ j e, j < t + 1 → l[j]? = some e → RemA l done j → pL (spl e.Path) (spl e0.Path) = false)) := by
   intro hn
   rcases hI with ⟨h1, h2, h3⟩ | ⟨j0, e0, h1, h2, h3, h4, h5⟩
   ·refine Or.inl ⟨h1, h2, fun j hj => ?_⟩
    by_cases ej : j = t
    ·subst ej; exact hn
    ·exact h3 j (by omega)
   ·refine Or.inr ⟨j0, e0, h1, h2, h3, h4, fun j e' hj hje hr => ?_⟩
    by_cases ej : j = t
    ·subst ej; exact absurd hr hn
    ·exact h5 j e' (by omega) hje hr
  unfold ref11_Order_l2
  simp only [idx_ok hx, idx_ok hdx, Option.bind_some]
  rw [dT (by omega), cond_true, w1 (by omega)]
  cases dt with
  | true =>
   rw [cond_true, bI, cond_true]
   exact ⟨_, rfl, rfl, skip fun ⟨_, _, _, h⟩ => by rw [hdx] at h; cases h⟩
  | false =>
   rw [cond_false, bI]
   by_cases hp : e.Path = []
   ·rw [show (e.Path == []) = true by simpa using hp, cond_true]
    exact ⟨_, rfl, rfl, skip fun ⟨e', h1, h2, _⟩ => by rw [hx] at h1; cases h1; exact h2 hp⟩
   ·have hrem : RemA l done t := ⟨e, hx, hp, hdx⟩
    obtain ⟨g1, g2, g3⟩ := V.pth _ he hp
    rw [show (e.Path == []) = false by simpa using hp, cond_false, rSplit_good g1 g2 g3, Option.bind_some]
    rcases hI with ⟨h1, h2, h3⟩ | ⟨j0, e0, h1, h2, h3, h4, h5⟩
    ·subst h1
     rw [dT (by omega), cond_true]
     refine ⟨_, rfl, rfl, Or.inr ⟨t, e, rfl, rfl, hx, hrem, fun j e' hj hje hr => ?_⟩⟩
     by_cases ej : j = t
     ·subst ej; rw [hx] at hje; cases hje; exact pL_sto.irr _
     ·exact absurd hr (h3 j (by omega))
    ·subst h1
     subst h2
     obtain ⟨e0', q1, q2, q3⟩ := h4
     rw [h3] at q1
     cases q1
     obtain ⟨f1, f2, f3⟩ := V.pth _ (mem_of_get h3) q2
     rw [dF (by omega), cond_false, ref_Order_eq (by simp only; omega) (by omega) (fun p hp => by have := (vN_all (g2 p hp)).1; omega) (fun p hp => by have := (vN_all (f2 p hp)).1; omega), Option.bind_some, cmpLL_neg]
     cases hlt : lexB ltB (spl e.Path) (spl e0.Path) with
     | true =>
      rw [cond_true]
      refine ⟨_, rfl, rfl, Or.inr ⟨t, e, rfl, rfl, hx, hrem, fun j e' hj hje hr => ?_⟩⟩
      by_cases ej : j = t
      ·subst ej; rw [hx] at hje; cases hje; exact pL_sto.irr _
      ·have := h5 j e' (by omega) hje hr
       cases hc : pL (spl e'.Path) (spl e.Path) with
       | false => rfl
       | true =>
        have := pL_sto.tr _ _ _ hc hlt
        rw [h5 j e' (by omega) hje hr] at this
        cases this
     | false =>
      rw [cond_false]
      refine ⟨_, rfl, rfl, Or.inr ⟨j0, e0, rfl, rfl, h3, ⟨e0, h3, q2, q3⟩, fun j e' hj hje hr => ?_⟩⟩
      by_cases ej : j = t
      ·subst ej; rw [hx] at hje; cases hje; exact hlt
      ·exact h5 j e' (by omega) hje hr) (by
  rintro ⟨best, at_, k⟩ ⟨hk, hI⟩
  simp only at hk hI
  subst hk
  unfold ref11_Order_l2
  simp only
  rw [dF (by omega)]
  refine ⟨_, rfl, best, rfl, ?_⟩
  rcases hI with ⟨h1, h2, h3⟩ | ⟨j0, e0, h1, h2, h3, h4, h5⟩
  ·exact Or.inl ⟨h1, fun j hr => h3 j (by obtain ⟨e, h, _⟩ := hr; exact lt_of_get h) hr⟩
  ·exact Or.inr ⟨j0, e0, h1, h3, h4, fun j e h hr => h5 j e (lt_of_get h) h hr⟩) (s := (-1, [], 0)) ⟨rfl, Or.inl ⟨rfl, rfl, fun j hj => absurd hj (Nat.not_lt_zero _)⟩⟩
 obtain ⟨r, e1, best, rfl, h⟩ := this
 exact ⟨best, e1, h⟩
theorem ref11_Order_eqP : ref11_Order l = some (ordN l) := by
 have hl := V.len
 have hSl := SN_lenP V
 have hmk : mkz 1 false (l.length : Int) = some (List.replicate l.length false) := by
  unfold mkz
  rw [dT (by omega), dT (by omega)]
  simp
 unfold ref11_Order
 rw [hmk, Option.bind_some]
 have hix : ∀ n ∈ SN l, ∃ e, l[ixP l n.f_path]? = some e ∧ n = nm e ∧ e.Path ≠ [] := fun n hn => by
  obtain ⟨e, he, hne, rfl⟩ := namesU_mem (SN_mem.1 hn)
  obtain ⟨i, hi⟩ := get_of_mem he
  have := ixP_ofP V hi
  exact ⟨e, by rw [show (nm e).f_path = e.Path from rfl, this]; exact hi, rfl, hne⟩
 have hinj : ∀ n ∈ SN l, ∀ m ∈ SN l, ixP l n.f_path = ixP l m.f_path → n = m := fun n hn m hm h => by
  obtain ⟨e, h1, h2, _⟩ := hix n hn
  obtain ⟨f, g1, g2, _⟩ := hix m hm
  rw [h, g1] at h1
  cases h1
  rw [h2, g2]
 have := loop_inv (body := fun s : List Int × List Bool => ref11_Order_l1 l s.1 s.2) (SN l).length (fun t s => s.1 = ((SN l).take t).map (fun n => ((ixP l n.f_path : Nat) : Int)) ∧ s.2.length = l.length ∧ ∀ n ∈ SN l, s.2[ixP l n.f_path]? = some (decide (n ∈ (SN l).take t))) (fun r => r = .inr (ordN l)) (by
  rintro t ⟨out, done⟩ ht ⟨ho, hd, hdn⟩
  simp only at ho hd hdn
  have hx : (SN l)[t]? = some (SN l)[t] := List.getElem?_eq_getElem ht
  generalize hnt : (SN l)[t] = n at hx
  have hn := mem_of_get hx
  have hfull : SN l = (SN l).take t ++ (n :: (SN l).drop (t + 1)) := by
   have h3 := List.take_append_drop t (SN l)
   rw [List.drop_eq_getElem_cons (by omega), hnt] at h3
   exact h3.symm
  have hsrt := SN_srtP V
  rw [hfull] at hsrt
  have hsp := List.pairwise_append.1 hsrt
  have hnt2 : n ∉ (SN l).take t := fun h => by have := hsp.2.2 n h n (List.mem_cons_self ..); rw [nL_irr] at this; cases this
  obtain ⟨en, hen, hnm, hpn⟩ := hix n hn
  have hrn : RemA l done (ixP l n.f_path) := ⟨en, hen, hpn, by rw [hdn n hn, dF hnt2]⟩
  obtain ⟨best, e1, h⟩ := best_loopP hd V
  refine Or.inl ?_
  rcases h with ⟨_, h⟩ | ⟨j0, e0, rfl, g1, g2, g3⟩
  ·exact absurd hrn (h _)
  ·
   have hm : nm e0 ∈ SN l := by
    obtain ⟨e', q1, q2, _⟩ := g2
    rw [g1] at q1
    cases q1
    exact nm_mem (mem_of_get g1) q2
   have hj0 : ixP l e0.Path = j0 := ixP_ofP V g1
   have hnot : nm e0 ∉ (SN l).take t := by
    obtain ⟨_, _, _, q3⟩ := g2
    have := hdn _ hm
    rw [show (nm e0).f_path = e0.Path from rfl, hj0, q3] at this
    simpa using this
   have heq : nm e0 = n := by
    have hm2 := hm
    rw [hfull] at hm2
    rcases List.mem_append.1 hm2 with h | h
    ·exact absurd h hnot
    ·rcases List.mem_cons.1 h with h | h
     ·exact h
     ·have h2 := hsp.2.1
      rw [List.pairwise_cons] at h2
      have h3 := h2.1 _ h
      have h4 := g3 _ en hen hrn
      rw [hnm] at h3
      have h3 : pL (spl en.Path) (spl e0.Path) = true := h3
      rw [h4] at h3
      cases h3
   have hj : j0 = ixP l n.f_path := by rw [← hj0, ← heq]; rfl
   have htk : (SN l).take (t + 1) = (SN l).take t ++ [n] := by rw [List.take_add_one, hx]; rfl
   have hjl : j0 < done.length := by rw [hd]; exact lt_of_get g1
   have hdj : done[j0]? = some done[j0] := List.getElem?_eq_getElem hjl
   have hol : out.length ≤ 300 := by rw [ho, List.length_map, List.length_take]; omega
   unfold ref11_Order_l1
   simp only
   rw [e1, bI, dF (by omega), cond_false, idx_ok hdj, Option.bind_some, Option.bind_some, app_one (by omega)]
   refine ⟨_, rfl, ?_, ?_, fun m hm' => ?_⟩
   ·simp only
    rw [htk, List.map_append, ← ho, hj]
    rfl
   ·simp only
    rw [List.length_set]; exact hd
   ·simp only [Int.toNat_natCast]
    by_cases e : m = n
    ·subst e
     rw [← hj, List.getElem?_set_self hjl, dT (by rw [htk]; simp)]
    ·rw [List.getElem?_set_ne (by rw [hj]; exact fun h => e (hinj m hm' n hn h.symm)), hdn m hm']
     congr 1
     rw [htk]
     simp [e]) (by
  rintro ⟨out, done⟩ ⟨ho, hd, hdn⟩
  simp only at ho hd hdn
  rw [List.take_length] at ho hdn
  obtain ⟨best, e1, h⟩ := best_loopP hd V
  unfold ref11_Order_l1
  rw [e1, bI]
  rcases h with ⟨rfl, _⟩ | ⟨j0, e0, rfl, g1, ⟨e', q1, q2, q3⟩, g3⟩
  ·rw [dT (by omega)]
   exact ⟨_, rfl, by rw [ho]; rfl⟩
  ·rw [g1] at q1
   cases q1
   have hm := nm_mem (mem_of_get g1) q2
   have := hdn _ hm
   rw [show (nm e0).f_path = e0.Path from rfl, ixP_ofP V g1, q3] at this
   simp at this
   exact absurd hm this) (s := ([], List.replicate l.length false)) ⟨rfl, by simp, fun n hn => by
   obtain ⟨e, he, _⟩ := hix n hn
   rw [List.getElem?_replicate, if_pos (lt_of_get he)]
   simp⟩
 obtain ⟨r, e1, rfl⟩ := this
 rw [e1, bR]
end
theorem ixP_of {l : List TApiEntry} (V : VE l) {i : Nat} {e : TApiEntry} (h : l[i]? = some e) : ixP l e.Path = i := ixP_ofP V.pe h
theorem ref11_Order_eq {l : List TApiEntry} (V : VE l) : ref11_Order l = some (ordN l) := ref11_Order_eqP V.pe
end Go.Proofs.YtkleajhiihbefaaGreatDoor.F
namespace Go.Proofs.YtkleajhiihbefaaGreatDoor.F
open Go Go.RowKit Go.Proofs.YtkleajhiihbefaaGreatDoor.K Go.Proofs.YtkleajhiihbefaaGreatDoor.K.E
theorem ref_Last_eq {x : List UInt8} (hl : x.length ≤ 100000000000) : ref11_Last x = some (lastP x) := by
 unfold ref11_Last
 rw [wI' (by omega)]
 obtain ⟨h1, h2⟩ := loop_dn x (fun s => ref11_Last_l1 x s) (fun t => x.drop (t + 1)) (fun t c hc => by
  have := lt_of_get hc
  unfold ref11_Last_l1
  rw [dT (by omega), idx_ok hc, cond_true, Option.bind_some, u8_47, w1 (by omega), slc_ok (by omega), wI' (by omega)]
  by_cases h : c = 47
  ·rw [dT h, if_pos h]; simp only [cond_true, Option.bind_some, Int.toNat_natCast, List.take_length]
  ·rw [dF h, if_neg h]; rfl) (by unfold ref11_Last_l1; rw [dF (by omega)]; rfl)
 by_cases h : (47 : UInt8) ∈ x
 ·obtain ⟨a, b, e, hb⟩ := cutR h
  rw [h1 a b e hb, bR]
  have h3 : lastP x = b := by
   unfold lastP
   rw [e, spl_snoc hb]
   simp
  rw [h3, e, ← List.drop_drop, List.drop_left]
  rfl
 ·rw [h2 h, bI]
  unfold lastP
  rw [spl_none h]
  rfl
theorem attr_done {l out : List TApiAttr} {i : Nat} {a : TApiAttr} (hx : l[i]? = some a) (ho : out.length ≤ 1000) : loopO (fun s : Bool × Int => ref11_Attrs_l3 l out (i : Int) s.1 s.2) (false, 0) = some (.inl (out.any (fun x => x.Name == a.Name))) := by
 have := loop_inv (body := fun s : Bool × Int => ref11_Attrs_l3 l out (i : Int) s.1 s.2) out.length (fun t s => s = ((out.take t).any (fun x => x.Name == a.Name), (t : Int))) (fun r => r = .inl (out.any (fun x => x.Name == a.Name))) (by
  rintro t s ht rfl
  have hb : out[t]? = some out[t] := List.getElem?_eq_getElem ht
  refine Or.inl ⟨_, ?_, rfl⟩
  unfold ref11_Attrs_l3
  simp only [idx_ok hb, idx_ok hx, Option.bind_some]
  rw [dT (by omega), cond_true, w1 (by omega), List.take_add_one, hb, List.any_append]
  cases (out.take t).any (fun x => x.Name == a.Name) with
  | true => rfl
  | false => simp) (by
  rintro s rfl
  unfold ref11_Attrs_l3
  simp only
  rw [dF (by omega)]
  exact ⟨_, rfl, by rw [List.take_length]⟩) (s := (false, (0 : Int))) rfl
 obtain ⟨r, e, rfl⟩ := this
 exact e
def RemB (out : List TApiAttr) (a : TApiAttr) : Prop := out.any (fun x => x.Name == a.Name) = false
theorem attr_best {l out : List TApiAttr} (hl : l.length ≤ 1000) (ho : out.length ≤ 1000) : ∃ best : Int, loopO (fun s : Int × Int => ref11_Attrs_l2 l out s.1 s.2) (-1, 0) = some (.inl best) ∧ ((best = -1 ∧ ∀ a ∈ l, ¬ RemB out a) ∨ ∃ (j0 : Nat) (x0 : TApiAttr), best = (j0 : Int) ∧ l[j0]? = some x0 ∧ RemB out x0 ∧ ∀ a ∈ l, RemB out a → ltB a.Name x0.Name = false) := by
 have := loop_inv (body := fun s : Int × Int => ref11_Attrs_l2 l out s.1 s.2) l.length (fun t s => s.2 = (t : Int) ∧ ((s.1 = -1 ∧ ∀ j a, j < t → l[j]? = some a → ¬ RemB out a) ∨ ∃ (j0 : Nat) (x0 : TApiAttr), s.1 = (j0 : Int) ∧ l[j0]? = some x0 ∧ RemB out x0 ∧ ∀ j a, j < t → l[j]? = some a → RemB out a → ltB a.Name x0.Name = false)) (fun r => ∃ best : Int, r = .inl best ∧ ((best = -1 ∧ ∀ a ∈ l, ¬ RemB out a) ∨ ∃ (j0 : Nat) (x0 : TApiAttr), best = (j0 : Int) ∧ l[j0]? = some x0 ∧ RemB out x0 ∧ ∀ a ∈ l, RemB out a → ltB a.Name x0.Name = false)) (by
  rintro t ⟨best, k⟩ ht ⟨hk, hI⟩
  simp only at hk hI
  subst hk
  have hx : l[t]? = some l[t] := List.getElem?_eq_getElem ht
  generalize l[t] = a at hx
  refine Or.inl ?_
  unfold ref11_Attrs_l2
  simp only [attr_done hx ho, bI]
  rw [dT (by omega), cond_true, w1 (by omega)]
  cases hd : out.any (fun x => x.Name == a.Name) with
  | true =>
   have hn : ¬ RemB out a := fun h => by rw [RemB, hd] at h; cases h
   refine ⟨_, rfl, rfl, ?_⟩
   rcases hI with ⟨h1, h2⟩ | ⟨j0, x0, h1, h3, h4, h5⟩
   ·refine Or.inl ⟨h1, fun j y hj hy => ?_⟩
    by_cases ej : j = t
    ·subst ej; rw [hx] at hy; cases hy; exact hn
    ·exact h2 j y (by omega) hy
   ·refine Or.inr ⟨j0, x0, h1, h3, h4, fun j y hj hy hr => ?_⟩
    by_cases ej : j = t
    ·subst ej; rw [hx] at hy; cases hy; exact absurd hr hn
    ·exact h5 j y (by omega) hy hr
  | false =>
   simp only [Bool.not_false, cond_true]
   rcases hI with ⟨h1, h2⟩ | ⟨j0, x0, h1, h3, h4, h5⟩
   ·subst h1
    rw [dT (by omega), cond_true]
    refine ⟨_, rfl, rfl, Or.inr ⟨t, a, rfl, hx, hd, fun j y hj hy hr => ?_⟩⟩
    by_cases ej : j = t
    ·subst ej; rw [hx] at hy; cases hy; exact ltB_sto.irr _
    ·exact absurd hr (h2 j y (by omega) hy)
   ·subst h1
    rw [dF (by omega), cond_false, idx_ok hx, idx_ok h3, Option.bind_some, Option.bind_some]
    cases hlt : ltB a.Name x0.Name with
    | true =>
     refine ⟨_, rfl, rfl, Or.inr ⟨t, a, rfl, hx, hd, fun j y hj hy hr => ?_⟩⟩
     by_cases ej : j = t
     ·subst ej; rw [hx] at hy; cases hy; exact ltB_sto.irr _
     ·cases hc : ltB y.Name a.Name with
      | false => rfl
      | true =>
       have := ltB_sto.tr _ _ _ hc hlt
       rw [h5 j y (by omega) hy hr] at this
       cases this
    | false =>
     refine ⟨_, rfl, rfl, Or.inr ⟨j0, x0, rfl, h3, h4, fun j y hj hy hr => ?_⟩⟩
     by_cases ej : j = t
     ·subst ej; rw [hx] at hy; cases hy; exact hlt
     ·exact h5 j y (by omega) hy hr) (by
  rintro ⟨best, k⟩ ⟨hk, hI⟩
  simp only at hk hI
  subst hk
  unfold ref11_Attrs_l2
  simp only
  rw [dF (by omega)]
  refine ⟨_, rfl, best, rfl, ?_⟩
  rcases hI with ⟨h1, h2⟩ | ⟨j0, x0, h1, h3, h4, h5⟩
  ·exact Or.inl ⟨h1, fun a ha => by obtain ⟨j, hj⟩ := get_of_mem ha; exact h2 j a (lt_of_get hj) hj⟩
  ·exact Or.inr ⟨j0, x0, h1, h3, h4, fun a ha hr => by obtain ⟨j, hj⟩ := get_of_mem ha; exact h5 j a (lt_of_get hj) hj hr⟩) (s := (-1, (0 : Int))) ⟨rfl, Or.inl ⟨rfl, fun j a hj => absurd hj (Nat.not_lt_zero _)⟩⟩
 obtain ⟨r, e1, best, rfl, h⟩ := this
 exact ⟨best, e1, h⟩
theorem ref_Attrs_eq {l : List TApiAttr} (hl : l.length ≤ 64) (hd : ∀ (i k : Nat) a b, k < i → l[i]? = some a → l[k]? = some b → b.Name ≠ a.Name) : ref11_Attrs l = some (attrsN l) := by
 have hA := attrsN_strict hd
 have hlen := attrsN_len l
 unfold ref11_Attrs
 have := loop_inv (body := fun s => ref11_Attrs_l1 l s) l.length (fun t s => s = (attrsN l).take t) (fun r => r = .inl (attrsN l)) (by
  rintro t s ht rfl
  have hx : (attrsN l)[t]? = some (attrsN l)[t] := List.getElem?_eq_getElem (by omega)
  generalize hat : (attrsN l)[t]'(by omega) = a at hx
  have hfull : attrsN l = (attrsN l).take t ++ (a :: (attrsN l).drop (t + 1)) := by
   have h3 := List.take_append_drop t (attrsN l)
   rw [List.drop_eq_getElem_cons (by omega), hat] at h3
   exact h3.symm
  have hA2 := hA
  rw [hfull] at hA2
  have hsp := List.pairwise_append.1 hA2
  have hol : ((attrsN l).take t).length = t := by rw [List.length_take]; omega
  have hra : RemB ((attrsN l).take t) a := by
   unfold RemB
   rw [List.any_eq_false]
   intro x hx' e
   have := hsp.2.2 x hx' a (List.mem_cons_self ..)
   rw [eq_of_beq e, ltB_sto.irr] at this
   cases this
  obtain ⟨best, e1, h⟩ := attr_best (l := l) (out := (attrsN l).take t) (by omega) (by omega)
  have hal : a ∈ l := attrsN_mem.1 (mem_of_get hx)
  refine Or.inl ?_
  rcases h with ⟨_, h⟩ | ⟨j0, x0, rfl, g1, g2, g3⟩
  ·exact absurd hra (h a hal)
  ·have hm : x0 ∈ attrsN l := attrsN_mem.2 (mem_of_get g1)
   have heq : x0 = a := by
    rw [hfull] at hm
    rcases List.mem_append.1 hm with h | h
    ·unfold RemB at g2
     rw [List.any_eq_false] at g2
     exact absurd (by simp) (g2 x0 h)
    ·rcases List.mem_cons.1 h with h | h
     ·exact h
     ·have h2 := hsp.2.1
      rw [List.pairwise_cons] at h2
      have h3 := h2.1 _ h
      rw [g3 a hal hra] at h3
      cases h3
   subst heq
   refine ⟨(attrsN l).take (t + 1), ?_, rfl⟩
   unfold ref11_Attrs_l1
   rw [dT (by omega), cond_true, e1, bI, dF (by omega), cond_false, idx_ok g1, Option.bind_some, app_one (by omega), Option.bind_some, List.take_add_one, hx]
   rfl) (by
  rintro s rfl
  have : (attrsN l).take l.length = attrsN l := by rw [← hlen, List.take_length]
  unfold ref11_Attrs_l1
  rw [this, dF (by omega)]
  exact ⟨_, rfl, rfl⟩) (s := ([] : List TApiAttr)) rfl
 obtain ⟨r, e, rfl⟩ := this
 rw [e, bI]
def noLinks (x : TApiNode) : TApiNode := { Kind := x.Kind, Mode := x.Mode, Uid := x.Uid, Gid := x.Gid, Time := x.Time, Size := x.Size, Data := x.Data, Target := x.Target, Dev := x.Dev, Attrs := x.Attrs, Kids := x.Kids, Parent := x.Parent, Links := 0 }
theorem trim_loop (x1 x2 x3 x4 x5 x6 : Int) (x8 : List UInt8) (x9 : Int) (x10 : List TApiAttr) (x11 : List TApiKid) (x12 x13 : Int) : ∀ n (b : List UInt8), b.length = n → b.length ≤ 100000000 → loopO (fun s : Int × Int × Int × Int × Int × Int × List UInt8 × List UInt8 × Int × List TApiAttr × List TApiKid × Int × Int => ref11_Node_l1 s.1 s.2.1 s.2.2.1 s.2.2.2.1 s.2.2.2.2.1 s.2.2.2.2.2.1 s.2.2.2.2.2.2.1 s.2.2.2.2.2.2.2.1 s.2.2.2.2.2.2.2.2.1 s.2.2.2.2.2.2.2.2.2.1 s.2.2.2.2.2.2.2.2.2.2.1 s.2.2.2.2.2.2.2.2.2.2.2.1 s.2.2.2.2.2.2.2.2.2.2.2.2) (x1, x2, x3, x4, x5, x6, b, x8, x9, x10, x11, x12, x13) = some (.inl (x1, x2, x3, x4, x5, x6, trimN b, x8, x9, x10, x11, x12, x13)) := by
 intro n
 induction n with
 | zero =>
  intro b h1 h2
  have := List.eq_nil_of_length_eq_zero h1
  subst this
  exact loop_end (by unfold ref11_Node_l1; rw [dF (by simp)]; rfl)
 | succ n ih =>
  intro b h1 h2
  obtain ⟨c, hx, e⟩ := snoc_of h1
  have hw : IntKind.i64.wrap ((b.length : Int) - 1) = (n : Int) := by rw [wI' (by omega)]; omega
  by_cases hc : c = 0
  ·subst hc
   have e2 : trimN b = trimN (b.take n) := by conv => lhs; rw [e, trimN_zero]
   rw [e2, ← ih (b.take n) (by rw [List.length_take]; omega) (by rw [List.length_take]; omega)]
   refine loop_next ?_
   unfold ref11_Node_l1
   simp only
   rw [dT (by omega), hw, idx_ok hx, cond_true, Option.bind_some, slc_ok (by omega)]
   simp
  ·have e2 : trimN b = b := by
    have := trimN_snoc hc (b.take n)
    rw [← e] at this
    exact this
   rw [e2]
   refine loop_end ?_
   unfold ref11_Node_l1
   simp only
   rw [dT (by omega), hw, idx_ok hx, cond_true, Option.bind_some, u8_0, dF hc]
   rfl
theorem ref_Node_eq (x : List UInt8) {x1 x2 x3 x4 x5 x6 x7 x8 x9 x10} (h : FOk x1 x2 x3 x4 x5 x6 x7 x8 x9 x10) (hk : 1 ≤ x1 ∧ x1 ≤ 5) (hd : x7.length ≤ 80000) : ∃ r : NTup, ref11_Node x x1 x2 x3 x4 x5 x6 x7 x8 x9 x10 = some r ∧ mkN r = noLinks (nodeV x1 x2 x3 x4 x5 x6 x7 x8 x9 x10) := by
 unfold ref11_Node
 rw [dup_eq, ref_Attrs_eq h.al h.ad, Option.bind_some, bI]
 simp only
 have hL := trim_loop x1 x2 x3 x4 x5 x6 [] 0 (attrsN x10) [] 0 0 x7.length x7 rfl (by omega)
 by_cases h1 : x1 = 1
 ·rw [show (x1 == 1) = true by simpa using h1, cond_true]
  have hL' : loopO (fun s : Int × Int × Int × Int × Int × Int × List UInt8 × List UInt8 × Int × List TApiAttr × List TApiKid × Int × Int => ref11_Node_l1 s.1 s.2.1 s.2.2.1 s.2.2.2.1 s.2.2.2.2.1 s.2.2.2.2.2.1 s.2.2.2.2.2.2.1 s.2.2.2.2.2.2.2.1 s.2.2.2.2.2.2.2.2.1 s.2.2.2.2.2.2.2.2.2.1 s.2.2.2.2.2.2.2.2.2.2.1 s.2.2.2.2.2.2.2.2.2.2.2.1 s.2.2.2.2.2.2.2.2.2.2.2.2) (x1, x2, x3, x4, x5, x6, x7, ([] : List UInt8), 0, attrsN x10, [], 0, 0) = _ := hL
  rw [hL']
  simp only [bI]
  rw [show (x1 == 3) = false by simp [h1], show (x1 == 4) = false by simp [h1], show (x1 == 5) = false by simp [h1]]
  exact ⟨_, rfl, by simp [mkN, noLinks, nodeV, h1]⟩
 ·rw [show (x1 == 1) = false by simpa using h1, cond_false]
  simp only [bI]
  by_cases h3 : x1 = 3
  ·rw [show (x1 == 3) = true by simpa using h3, show (x1 == 4) = false by simp [h3], show (x1 == 5) = false by simp [h3]]
   exact ⟨_, rfl, by simp [mkN, noLinks, nodeV, h3]⟩
  ·rw [show (x1 == 3) = false by simpa using h3]
   simp only [cond_false, bI]
   by_cases h4 : x1 = 4
   ·rw [show (x1 == 4) = true by simpa using h4]
    exact ⟨_, rfl, by simp [mkN, noLinks, nodeV, h4]⟩
   ·rw [show (x1 == 4) = false by simpa using h4]
    by_cases h5 : x1 = 5
    ·rw [show (x1 == 5) = true by simpa using h5]
     exact ⟨_, rfl, by simp [mkN, noLinks, nodeV, h5]⟩
    ·have h2 : x1 = 2 := by omega
     rw [show (x1 == 5) = false by simpa using h5]
     exact ⟨_, rfl, by simp [mkN, noLinks, nodeV, h2]⟩
end Go.Proofs.YtkleajhiihbefaaGreatDoor.F
namespace Go.Proofs.YtkleajhiihbefaaGreatDoor.F
open Go Go.RowKit Go.Proofs.YtkleajhiihbefaaGreatDoor.K Go.Proofs.YtkleajhiihbefaaGreatDoor.K.E
theorem rootE_of {l : List TApiEntry} (V : VE l) {e : TApiEntry} (he : e ∈ l) (hp : e.Path = []) : rootE l = e := by
 unfold rootE
 by_cases hi : ixI (fun e : TApiEntry => e.Path == []) l = -1
 ·exfalso
  cases hf : firstQ (fun t (x : TApiEntry) => if (fun e : TApiEntry => e.Path == []) x then some (t : Int) else none) 0 l with
  | none =>
   obtain ⟨t, ht⟩ := get_of_mem he
   have h0 := firstQ_no hf ht
   simp [hp] at h0
  | some r =>
   obtain ⟨t, x, g1, g2⟩ := firstQ_get hf
   unfold ixI at hi
   rw [hf] at hi
   split at g2
   ·cases g2; simp at hi
   ·cases g2
 ·obtain ⟨t, x, g1, g2, g3⟩ := ixI_pos hi
  rw [g1, if_neg (by omega), Int.toNat_natCast, g2, Option.getD_some]
  exact V.inj (mem_of_get g2) he (by rw [hp]; simpa using g3)
theorem rootE_no {l : List TApiEntry} (h : ∀ e ∈ l, e.Path ≠ []) : rootE l = dE := by
 unfold rootE
 rw [ixI_neg fun e he => by simpa using h e he, if_pos (by decide)]
theorem ref_root_loop {l : List TApiEntry} (V : VE l) : loopO (fun s : Int × (List UInt8 × Int × Int × Int × Int × Int × Int × List UInt8 × List UInt8 × Int × List TApiAttr) => ref11_Canon_l1 l s.1 s.2.1 s.2.2.1 s.2.2.2.1 s.2.2.2.2.1 s.2.2.2.2.2.1 s.2.2.2.2.2.2.1 s.2.2.2.2.2.2.2.1 s.2.2.2.2.2.2.2.2.1 s.2.2.2.2.2.2.2.2.2.1 s.2.2.2.2.2.2.2.2.2.2.1 s.2.2.2.2.2.2.2.2.2.2.2) (0, tupE dE) = some (.inl (tupE (rootE l))) := by
 have hl := V.len
 have := loop_inv (body := fun s : Int × (List UInt8 × Int × Int × Int × Int × Int × Int × List UInt8 × List UInt8 × Int × List TApiAttr) => ref11_Canon_l1 l s.1 s.2.1 s.2.2.1 s.2.2.2.1 s.2.2.2.2.1 s.2.2.2.2.2.1 s.2.2.2.2.2.2.1 s.2.2.2.2.2.2.2.1 s.2.2.2.2.2.2.2.2.1 s.2.2.2.2.2.2.2.2.2.1 s.2.2.2.2.2.2.2.2.2.2.1 s.2.2.2.2.2.2.2.2.2.2.2) l.length (fun t s => s.1 = (t : Int) ∧ (((∀ j e, j < t → l[j]? = some e → e.Path ≠ []) ∧ s.2 = tupE dE) ∨ ∃ e ∈ l, e.Path = [] ∧ s.2 = tupE e)) (fun r => r = .inl (tupE (rootE l))) (by
  rintro t ⟨k, s⟩ ht ⟨hk, hI⟩
  simp only at hk hI
  subst hk
  have hx : l[t]? = some l[t] := List.getElem?_eq_getElem ht
  generalize l[t] = e at hx
  refine Or.inl ?_
  unfold ref11_Canon_l1
  simp only [idx_ok hx, Option.bind_some]
  rw [dT (by omega), cond_true, w1 (by omega)]
  by_cases hp : e.Path = []
  ·rw [show (e.Path == []) = true by simpa using hp, cond_true]
   exact ⟨_, rfl, rfl, Or.inr ⟨e, mem_of_get hx, hp, rfl⟩⟩
  ·rw [show (e.Path == []) = false by simpa using hp, cond_false]
   refine ⟨_, rfl, rfl, ?_⟩
   rcases hI with ⟨h1, h2⟩ | h
   ·refine Or.inl ⟨fun j y hj hy => ?_, h2⟩
    by_cases ej : j = t
    ·subst ej; rw [hx] at hy; cases hy; exact hp
    ·exact h1 j y (by omega) hy
   ·exact Or.inr h) (by
  rintro ⟨k, s⟩ ⟨hk, hI⟩
  simp only at hk hI
  subst hk
  unfold ref11_Canon_l1
  simp only
  rw [dF (by omega)]
  refine ⟨_, rfl, ?_⟩
  rcases hI with ⟨h1, h2⟩ | ⟨e, he, hp, h2⟩
  ·rw [rootE_no fun e he => by obtain ⟨j, hj⟩ := get_of_mem he; exact h1 j e (lt_of_get hj) hj, ← h2]
  ·rw [rootE_of V he hp, ← h2]) (s := (0, tupE dE)) ⟨rfl, Or.inl ⟨fun j e h => absurd h (Nat.not_lt_zero _), rfl⟩⟩
 obtain ⟨r, e, rfl⟩ := this
 exact e
structure OW (l : List TApiEntry) (owners : List Int) (inos : Inos) (b : List TApiNode) : Prop where
 len : owners.length + 1 = b.length
 at_ : ∀ K v, mget inos K = some v → K ≠ [] → owners[(v - 1).toNat]? = some ((ixP l K : Nat) : Int)
section
variable {l : List TApiEntry} (V : VE l)
include V
theorem canon_FIt (t : Nat) : FI (F.ndOf l) (nodeN (rootE l)) ((SN l).take t) ((SN l).take t) (((SN l).take t).foldl (cstep (F.ndOf l)) (mput ([] : Inos) [] 0, [nodeN (rootE l)])).1 (((SN l).take t).foldl (cstep (F.ndOf l)) (mput ([] : Inos) [] 0, [nodeN (rootE l)])).2 := by
 have := FI.fold (nd := F.ndOf l) (rn := nodeN (rootE l)) ((SN l).take t) (FI.start _ _ rfl) (fun n hn => by
  obtain ⟨e, he, h1, h6, h2, h3, _⟩ := SN_own V (List.mem_of_mem_take hn)
  exact ⟨h2, by rw [h3]; rfl⟩) (fun a c n e => by
  rw [List.nil_append]
  exact SN_pre V a (c ++ (SN l).drop t) n (by rw [← List.cons_append, ← List.append_assoc, ← e, List.take_append_drop]))
 rw [List.nil_append] at this
 exact this
theorem own_ix {n : TTreeNamed} (hn : n ∈ SN l) : ∃ e, l[ixP l n.f_of]? = some e ∧ e.Path = n.f_of ∧ e.Kind ≠ 6 ∧ n.f_of ≠ [] ∧ F.ndOf l n.f_of = nodeN e ∧ (e.Kind = 2 → n.f_of = n.f_path) := by
 obtain ⟨e, he, h1, h6, h2, h3, h4⟩ := SN_own V hn
 obtain ⟨i, hi⟩ := get_of_mem he
 have := ixP_of V hi
 rw [h1] at this
 exact ⟨e, by rw [this]; exact hi, h1, h6, h2, h3, h4⟩
theorem ow_iff {T' T : List TTreeNamed} {owners : List Int} {inos : Inos} {b : List TApiNode} (hT : ∀ n ∈ T', n ∈ SN l) (H : FI (F.ndOf l) (nodeN (rootE l)) T' T inos b) (O : OW l owners inos b) {j : Nat} (hj : j < owners.length) : ∃ K e, mget inos K = some ((j + 1 : Nat) : Int) ∧ K ≠ [] ∧ owners[j]? = some ((ixP l K : Nat) : Int) ∧ l[ixP l K]? = some e ∧ e.Path = K := by
 obtain ⟨K, hK⟩ := H.ono (j + 1) (by have := O.len; omega)
 have hne : K ≠ [] := fun e => by
  subst e
  rw [H.rt] at hK
  have := Option.some.inj hK
  omega
 have ho := O.at_ K _ hK hne
 rw [show (((j + 1 : Nat) : Int) - 1).toNat = j by omega] at ho
 rcases H.key K _ hK with e | ⟨n, hn, e⟩
 ·exact absurd e hne
 ·obtain ⟨x, h1, h2, _⟩ := own_ix V (hT n hn)
  rw [e] at h1 h2
  exact ⟨K, x, hK, hne, ho, h1, h2⟩
theorem ref_owner_eq {n : TTreeNamed} (hn : n ∈ SN l) : ref11_owner l ((ixP l n.f_path : Nat) : Int) = some ((ixP l n.f_of : Nat) : Int) := by
 have hl := V.len
 obtain ⟨e, he, hne, rfl⟩ := SN_ent V hn
 obtain ⟨i, hi⟩ := get_of_mem he
 have hix : ixP l (nm e).f_path = i := ixP_of V hi
 unfold ref11_owner
 rw [hix, idx_ok hi, Option.bind_some]
 by_cases h6 : e.Kind = 6
 ·rw [show (e.Kind != 6) = false by simpa using h6, cond_false]
  obtain ⟨x, hx, h1, _⟩ := V.lnk he h6
  obtain ⟨k, hk⟩ := get_of_mem hx
  have hof : (nm e).f_of = e.Target := by unfold nm; simp only [if_pos h6]
  have hik : ixP l (nm e).f_of = k := by rw [hof, ← h1]; exact ixP_of V hk
  have := loop_inv (body := fun s => ref11_owner_l1 l (i : Int) s) k (fun t s => s = (t : Int)) (fun r => r = .inr (k : Int)) (by
   rintro t s ht rfl
   have htl : t < l.length := by have := lt_of_get hk; omega
   have hb : l[t]? = some l[t] := List.getElem?_eq_getElem htl
   refine Or.inl ⟨_, ?_, rfl⟩
   unfold ref11_owner_l1
   have hne : l[t].Path ≠ e.Target := by rw [← h1]; exact (V.ents k x hk).dist t _ ht hb
   rw [dT (by omega), cond_true, idx_ok hb, idx_ok hi, Option.bind_some, Option.bind_some, show (l[t].Path == e.Target) = false by simpa using hne, w1 (by omega)]
   rfl) (by
   rintro s rfl
   refine ⟨_, ?_, rfl⟩
   unfold ref11_owner_l1
   have := lt_of_get hk
   rw [dT (by omega), cond_true, idx_ok hk, idx_ok hi, Option.bind_some, Option.bind_some, show (x.Path == e.Target) = true by simpa using h1]
   rfl) (s := (0 : Int)) rfl
  obtain ⟨r, e1, rfl⟩ := this
  rw [e1, bR, hik]
 ·have hof : (nm e).f_of = e.Path := by unfold nm; simp only [if_neg h6]
  rw [show (e.Kind != 6) = true by simpa using h6, cond_true, hof, ← hix]
  rfl
omit V in
theorem ix_inj {a c : List UInt8} {e f : TApiEntry} (h1 : l[ixP l a]? = some e) (h2 : e.Path = a) (g1 : l[ixP l c]? = some f) (g2 : f.Path = c) (h : ixP l a = ixP l c) : a = c := by
 rw [h, g1] at h1
 cases h1
 rw [← h2, ← g2]
theorem ino_loop {T : List TTreeNamed} {owners : List Int} {inos : Inos} {b : List TApiNode} (hT : ∀ n ∈ T, n ∈ SN l) (H : FI (F.ndOf l) (nodeN (rootE l)) T T inos b) (O : OW l owners inos b) (hol : owners.length ≤ 1000) {n : TTreeNamed} (hn : n ∈ SN l) : loopO (fun s : Int × Int => ref11_Canon_l3 owners ((ixP l n.f_of : Nat) : Int) s.1 s.2) (-1, 0) = some (.inl ((mget inos n.f_of).getD (-1))) := by
 obtain ⟨en, n1, n2, n6, n3, n4, n5⟩ := own_ix V hn
 have := loop_inv (body := fun s : Int × Int => ref11_Canon_l3 owners ((ixP l n.f_of : Nat) : Int) s.1 s.2) owners.length (fun t s => s.2 = (t : Int) ∧ s.1 = (match mget inos n.f_of with | some v => if v ≤ (t : Int) then v else -1 | none => -1)) (fun r => r = .inl ((mget inos n.f_of).getD (-1))) (by
  rintro t ⟨ino, k⟩ ht ⟨hk, hI⟩
  simp only at hk hI
  subst hk
  obtain ⟨K, e, k1, k2, k3, k4, k5⟩ := ow_iff V hT H O ht
  refine Or.inl ?_
  unfold ref11_Canon_l3
  simp only [idx_ok k3, Option.bind_some]
  rw [dT (by omega), cond_true, w1 (by omega)]
  by_cases hK : K = n.f_of
  ·subst hK
   rw [beq_self_eq_true, cond_true]
   refine ⟨_, rfl, rfl, ?_⟩
   simp only [k1]
   rw [if_pos (by omega)]
  ·have hne : ixP l K ≠ ixP l n.f_of := fun h => hK (ix_inj k4 k5 n1 n2 h)
   rw [show (((ixP l K : Nat) : Int) == ((ixP l n.f_of : Nat) : Int)) = false by simp only [beq_eq_false_iff_ne, ne_eq]; omega, cond_false]
   refine ⟨_, rfl, rfl, ?_⟩
   simp only [hI]
   cases hm : mget inos n.f_of with
   | none => rfl
   | some v =>
    simp only
    have hv : v ≠ ((t + 1 : Nat) : Int) := fun h => hK (H.inj _ _ _ k1 (by rw [hm, h]))
    by_cases g : v ≤ (t : Int)
    ·rw [if_pos g, if_pos (by omega)]
    ·rw [if_neg g, if_neg (by omega)]) (by
  rintro ⟨ino, k⟩ ⟨hk, hI⟩
  simp only at hk hI
  subst hk
  unfold ref11_Canon_l3
  simp only
  rw [dF (by omega)]
  refine ⟨_, rfl, ?_⟩
  rw [hI]
  cases hm : mget inos n.f_of with
  | none => rfl
  | some v =>
   simp only [Option.getD_some]
   have := H.rng _ _ hm
   have := O.len
   rw [if_pos (by omega)]) (s := (-1, (0 : Int))) ⟨rfl, by
   cases hm : mget inos n.f_of with
   | none => rfl
   | some v =>
    simp only
    have h0 := H.rng _ _ hm
    have : v ≠ 0 := fun h => n3 (H.inj _ _ _ (by rw [hm, h]) H.rt)
    have h1 : ¬ v ≤ ((0 : Nat) : Int) := by omega
    rw [if_neg h1]⟩
 obtain ⟨r, e, rfl⟩ := this
 exact e
theorem up_loop {owners : List Int} {inos : Inos} (ino : Int) (b1 : List TApiNode) (hgo : ∀ j : Nat, j < owners.length → ∃ K e, mget inos K = some ((j + 1 : Nat) : Int) ∧ K ≠ [] ∧ owners[j]? = some ((ixP l K : Nat) : Int) ∧ l[ixP l K]? = some e ∧ e.Path = K) (hinj : ∀ K K' v, mget inos K = some v → mget inos K' = some v → K = K') (hrng : ∀ K v, mget inos K = some v → 0 ≤ v ∧ v ≤ (owners.length : Int)) (hrt : mget inos [] = some 0) (hol : owners.length ≤ 1000) {n : TTreeNamed} (hn : n ∈ SN l) (hup : ∃ v, mget inos (upP n.f_path) = some v) : loopO (fun s : Int × Int => ref11_Canon_l4 l ((ixP l n.f_path : Nat) : Int) (owners, ino, b1) s.1 s.2) (0, 0) = some (.inl (parO inos n)) := by
 have hl := V.len
 obtain ⟨en, hen, hne, hnm⟩ := SN_ent V hn
 obtain ⟨i, hi⟩ := get_of_mem hen
 have hix : ixP l n.f_path = i := by rw [hnm]; exact ixP_of V hi
 have hpn : n.f_path = en.Path := by rw [hnm]; rfl
 have hel := (V.pathN hen hne).1
 obtain ⟨p, hp⟩ := hup
 have hpar : parO inos n = p := by unfold parO; rw [hp]; rfl
 have hp0 := hrng _ _ hp
 have := loop_inv (body := fun s : Int × Int => ref11_Canon_l4 l ((ixP l n.f_path : Nat) : Int) (owners, ino, b1) s.1 s.2) owners.length (fun t s => s.2 = (t : Int) ∧ s.1 = (if p ≤ (t : Int) then p else 0)) (fun r => r = .inl (parO inos n)) (by
  rintro t ⟨up, k⟩ ht ⟨hk, hI⟩
  simp only at hk hI
  subst hk
  obtain ⟨K, e, k1, k2, k3, k4, k5⟩ := hgo t ht
  refine Or.inl ?_
  unfold ref11_Canon_l4
  simp only [idx_ok k3, idx_ok k4, Option.bind_some]
  rw [hix, idx_ok hi]
  simp only [Option.bind_some]
  rw [ref_Up_eq (by omega)]
  simp only [Option.bind_some, fork_same]
  rw [dT (by omega), cond_true, w1 (by omega)]
  have hb : ((cond (e.Kind == 2) (some (.inl (e.Path == upP en.Path))) (some (.inl false))) : Option (Sum Bool (Sum (Int × Int) (Sum Int (Sum (List Int × Int × List TApiNode) (Sum (List TApiNode) (List TApiNode))))))) = some (.inl (decide (p = ((t + 1 : Nat) : Int)))) := by
   by_cases hK : K = upP n.f_path
   ·have hpt : p = ((t + 1 : Nat) : Int) := by rw [hK, hp] at k1; exact Option.some.inj k1
    obtain ⟨x, hx, g1, g2, _⟩ := up_dir V hn (by rw [← hK]; exact k2)
    have hex : e = x := V.inj (mem_of_get k4) hx (by rw [k5, hK, g1])
    rw [dT hpt, hex, g2, g1, hpn]
    simp
   ·have hpt : p ≠ ((t + 1 : Nat) : Int) := fun h => hK (hinj _ _ _ k1 (by rw [hp, h]))
    rw [dF hpt, show (e.Path == upP en.Path) = false by rw [k5, ← hpn]; simpa using hK]
    cases e.Kind == 2 <;> rfl
  rw [hb, bI]
  by_cases hpt : p = ((t + 1 : Nat) : Int)
  ·rw [dT hpt, cond_true]
   refine ⟨_, rfl, rfl, ?_⟩
   simp only
   rw [if_pos (by omega)]
   exact hpt.symm
  ·rw [dF hpt, cond_false]
   refine ⟨_, rfl, rfl, ?_⟩
   simp only [hI]
   by_cases g : p ≤ (t : Int)
   ·rw [if_pos g, if_pos (by omega)]
   ·rw [if_neg g, if_neg (by omega)]) (by
  rintro ⟨up, k⟩ ⟨hk, hI⟩
  simp only at hk hI
  subst hk
  unfold ref11_Canon_l4
  simp only
  rw [dF (by omega)]
  exact ⟨_, rfl, by rw [hI, if_pos (by omega), hpar]⟩) (s := (0, (0 : Int))) ⟨rfl, by
   simp only
   split
   ·omega
   ·rfl⟩
 obtain ⟨r, e, rfl⟩ := this
 exact e
end
end Go.Proofs.YtkleajhiihbefaaGreatDoor.F
namespace Go.Proofs.YtkleajhiihbefaaGreatDoor.F
open Go Go.RowKit Go.Proofs.YtkleajhiihbefaaGreatDoor.K Go.Proofs.YtkleajhiihbefaaGreatDoor.K.E
section
variable {l : List TApiEntry} (V : VE l)
include V
theorem ref_step {t : Nat} {n : TTreeNamed} (hx : (SN l)[t]? = some n) {owners : List Int} {inos : Inos} {b : List TApiNode} (H : FI (F.ndOf l) (nodeN (rootE l)) ((SN l).take t) ((SN l).take t) inos b) (O : OW l owners inos b) (hb : b.length ≤ 100) :
  ∃ owners', ref11_Canon_l2 l (ordN l) owners (t : Int) b = some (.inl (owners', ((t + 1 : Nat) : Int), (cstep (F.ndOf l) (inos, b) n).2)) ∧ OW l owners' (cstep (F.ndOf l) (inos, b) n).1 (cstep (F.ndOf l) (inos, b) n).2 := by
 have hSl := SN_len V
 have htl := lt_of_get hx
 have hn := mem_of_get hx
 have hol := O.len
 have hT : ∀ m ∈ (SN l).take t, m ∈ SN l := fun m hm => List.mem_of_mem_take hm
 obtain ⟨e, n1, n2, n6, n3, n4, n5⟩ := own_ix V hn
 have he := mem_of_get n1
 have hke := V.kindE he
 obtain ⟨en, hen, hne, hnm⟩ := SN_ent V hn
 obtain ⟨i, hi⟩ := get_of_mem hen
 have hix : ixP l n.f_path = i := by rw [hnm]; exact ixP_of V hi
 have hpn : n.f_path = en.Path := by rw [hnm]; rfl
 have hel := (V.pathN hen hne).1
 have hlast : lastO n = lastP en.Path := by rw [hnm]; rfl
 have hord : (ordN l)[t]? = some ((ixP l n.f_path : Nat) : Int) := by unfold ordN; rw [List.getElem?_map, hx]; rfl
 have hordl : (ordN l).length = (SN l).length := by unfold ordN; rw [List.length_map]
 obtain ⟨j1, j2, j3⟩ := H.c1 n n3 (by rw [n4]; rfl)
 have hT2 : ∀ m ∈ (SN l).take t ++ [n], m ∈ SN l := fun m hm => by
  rcases List.mem_append.1 hm with h | h
  ·exact hT m h
  ·rw [List.mem_singleton.1 h]; exact hn

 have hown : ∃ owners', OW l owners' (c1 (F.ndOf l) inos b n).1 (c1 (F.ndOf l) inos b n).2.2 ∧ ((cond (decide ((mget inos n.f_of).getD (-1) < 0))
(Option.bind (app owners ([((ixP l n.f_of : Nat) : Int)])) fun z =>
(bnd ((Option.bind (idx l ((ixP l n.f_of : Nat) : Int)) fun x8 =>
(Option.bind (ref11_Node x8.Path x8.Kind x8.Mode x8.Uid x8.Gid x8.Time x8.Size x8.Data x8.Target x8.Dev x8.Attrs) fun r3 =>
(Option.bind (app b [{ ({ Kind := r3.1, Mode := r3.2.1, Uid := r3.2.2.1, Gid := r3.2.2.2.1, Time := r3.2.2.2.2.1, Size := r3.2.2.2.2.2.1, Data := r3.2.2.2.2.2.2.1, Target := r3.2.2.2.2.2.2.2.1, Dev := r3.2.2.2.2.2.2.2.2.1, Attrs := r3.2.2.2.2.2.2.2.2.2.1, Kids := [], Parent := r3.2.2.2.2.2.2.2.2.2.2.2.1, Links := r3.2.2.2.2.2.2.2.2.2.2.2.2 } : TApiNode) with Kids := r3.2.2.2.2.2.2.2.2.2.2.1 }]) fun z1 =>
some (.inl z1)))) : Option (Sum (((List TApiNode))) (Sum ((List Int) × Int × ((List TApiNode))) (Sum ((List Int) × Int × ((List TApiNode))) (Sum (((List TApiNode))) (((List TApiNode)))))))) fun j2 =>
(Option.bind (idx l ((ixP l n.f_of : Nat) : Int)) fun x9 =>
(bnd ((cond (x9.Kind == 2)
(Option.bind (idx j2 (z.length : Int)) fun x10 =>
(Option.bind (idx j2 (z.length : Int)) fun x11 =>
some (.inl (List.set j2 ((z.length : Int).toNat) ({ Kind := x11.Kind, Mode := x11.Mode, Uid := x11.Uid, Gid := x11.Gid, Time := x11.Time, Size := x11.Size, Data := x11.Data, Target := x11.Target, Dev := x11.Dev, Attrs := x11.Attrs, Kids := x11.Kids, Parent := x11.Parent, Links := 2 } : TApiNode)))))
(some (.inl j2))) : Option (Sum (((List TApiNode))) (Sum ((List Int) × Int × ((List TApiNode))) (Sum ((List Int) × Int × ((List TApiNode))) (Sum (((List TApiNode))) (((List TApiNode)))))))) fun j3 =>
some (.inl (z, (z.length : Int), j3))))))
(some (.inl (owners, (mget inos n.f_of).getD (-1), b)))) : Option (Sum ((List Int) × Int × ((List TApiNode))) (Sum ((List Int) × Int × ((List TApiNode))) (Sum (((List TApiNode))) (((List TApiNode))))))) = some (.inl (owners', (c1 (F.ndOf l) inos b n).2.1, (c1 (F.ndOf l) inos b n).2.2)) := by
  unfold c1
  cases hK : mget inos n.f_of with
  | some v =>
   have hv := H.rng _ _ hK
   simp only [Option.isSome_some, if_true, Option.getD_some]
   rw [dF (by omega)]
   exact ⟨owners, O, rfl⟩
  | none =>
   simp only [Option.isSome_none, Bool.false_eq_true, if_false, Option.getD_none]
   obtain ⟨r3, q1, q2⟩ := ref_Node_eq e.Path (V.fok he n6) ⟨hke.1, by omega⟩ (V.data _ he)
   have hzl : (((owners ++ [((ixP l n.f_of : Nat) : Int)]).length : Nat) : Int) = (b.length : Int) := by rw [List.length_append, List.length_singleton]; omega
   refine ⟨owners ++ [((ixP l n.f_of : Nat) : Int)], ⟨by simp; omega, fun K v hv hKn => ?_⟩, ?_⟩
   ·rw [mget_put] at hv
    split at hv
    ·rename_i hKe
     cases hv
     subst hKe
     rw [List.getElem?_append_right (by omega), show ((b.length : Int) - 1).toNat - owners.length = 0 by omega]
     rfl
    ·have := H.rng _ _ hv
     have h0 : v ≠ 0 := fun h => hKn (H.inj _ _ _ (by rw [hv, h]) H.rt)
     rw [List.getElem?_append_left (by omega)]
     exact O.at_ K v hv hKn
   ·rw [dT (by omega), cond_true, app_one (by omega), Option.bind_some, idx_ok n1, Option.bind_some, q1, Option.bind_some]
    have hmk : ({ ({ Kind := r3.1, Mode := r3.2.1, Uid := r3.2.2.1, Gid := r3.2.2.2.1, Time := r3.2.2.2.2.1, Size := r3.2.2.2.2.2.1, Data := r3.2.2.2.2.2.2.1, Target := r3.2.2.2.2.2.2.2.1, Dev := r3.2.2.2.2.2.2.2.2.1, Attrs := r3.2.2.2.2.2.2.2.2.2.1, Kids := [], Parent := r3.2.2.2.2.2.2.2.2.2.2.2.1, Links := r3.2.2.2.2.2.2.2.2.2.2.2.2 } : TApiNode) with Kids := r3.2.2.2.2.2.2.2.2.2.2.1 } : TApiNode) = noLinks (nodeN e) := q2
    rw [hmk, app_one (by omega), Option.bind_some, bI, Option.bind_some, hzl, n4]
    have hg : idx (b ++ [noLinks (nodeN e)]) (b.length : Int) = some (noLinks (nodeN e)) := idx_ok (by rw [List.getElem?_append_right (Nat.le_refl _), Nat.sub_self]; rfl)
    rw [hg]
    simp only [Option.bind_some]
    by_cases h2 : e.Kind = 2
    ·rw [show (e.Kind == 2) = true by simpa using h2, cond_true, bI, Int.toNat_natCast]
     rw [List.set_append_right _ _ (Nat.le_refl _), Nat.sub_self, List.set_cons_zero]
     have : ({ Kind := (noLinks (nodeN e)).Kind, Mode := (noLinks (nodeN e)).Mode, Uid := (noLinks (nodeN e)).Uid, Gid := (noLinks (nodeN e)).Gid, Time := (noLinks (nodeN e)).Time, Size := (noLinks (nodeN e)).Size, Data := (noLinks (nodeN e)).Data, Target := (noLinks (nodeN e)).Target, Dev := (noLinks (nodeN e)).Dev, Attrs := (noLinks (nodeN e)).Attrs, Kids := (noLinks (nodeN e)).Kids, Parent := (noLinks (nodeN e)).Parent, Links := 2 } : TApiNode) = nodeN e := by
      unfold noLinks nodeN nodeV
      simp [h2]
     rw [this]
    ·rw [show (e.Kind == 2) = false by simpa using h2, cond_false, bI]
     have : noLinks (nodeN e) = nodeN e := by
      unfold noLinks nodeN nodeV
      simp [h2]
     rw [this]
 obtain ⟨owners', O', hjoin⟩ := hown
 have hol' := O'.len
 have hcl : (c1 (F.ndOf l) inos b n).2.2.length ≤ b.length + 1 := by
  unfold c1
  split <;> simp
 obtain ⟨v, hv⟩ : ∃ v, mget inos (upP n.f_path) = some v := by
  have hfull : SN l = (SN l).take t ++ (n :: (SN l).drop (t + 1)) := by
   have h3 := List.take_append_drop t (SN l)
   rw [List.drop_eq_getElem_cons htl] at h3
   obtain ⟨_, h4⟩ := List.getElem?_eq_some_iff.1 hx
   rw [h4] at h3
   exact h3.symm
  rcases SN_pre V _ _ _ hfull with h | ⟨m, hm, h⟩
  ·rw [h]; exact ⟨0, H.rt⟩
  ·rw [← h]; exact H.all m hm
 have hv2 := j3 _ _ hv
 have hup := up_loop V (owners := owners') (inos := (c1 (F.ndOf l) inos b n).1) (c1 (F.ndOf l) inos b n).2.1 (c1 (F.ndOf l) inos b n).2.2 (fun j hj => ow_iff V hT2 j1 O' hj) j1.inj (fun K v h => by have := j1.rng K v h; omega) j1.rt (by omega) hn ⟨v, hv2⟩
 have hpar : parO (c1 (F.ndOf l) inos b n).1 n = v := by unfold parO; rw [hv2]; rfl
 refine ⟨owners', ?_, ?_⟩
 ·unfold ref11_Canon_l2 cstep
  simp only [dup_eq, fork_same]
  rw [dT (by omega), cond_true, idx_ok hord, Option.bind_some, Option.bind_some, ref_owner_eq V hn, Option.bind_some, ino_loop V hT H O (by omega) hn, bI]
  refine (bnd_of hjoin).trans ?_
  simp only
  rw [hup, bI]
  generalize hj : c1 (F.ndOf l) inos b n = j at j1 j2 hv2 hpar O' hol' hcl
  obtain ⟨p1, p2⟩ := j1.rng _ _ hv2
  rw [← hpar] at p1 p2
  obtain ⟨g1, g2⟩ := get_getD p1 p2
  rw [hix, idx_ok hi]
  simp only [Option.bind_some, ref_Last_eq (show en.Path.length ≤ 100000000000 by omega), g1, chk_same]
  have hkl : ((j.2.2[(parO j.1 n).toNat]?).getD dN).Kids.length ≤ 1000 := by
   obtain ⟨x, q1, _, q3⟩ := j1.nod _ _ hv2
   rw [hpar, q1, Option.getD_some, q3]
   unfold kidR
   rw [List.length_map]
   have := List.length_filter_le (fun c => decide (upP c.f_path = upP n.f_path)) ((SN l).take t)
   rw [List.length_take] at this
   omega
  rw [app_one (by omega), Option.bind_some]
  have hc2 : List.set j.2.2 (parO j.1 n).toNat { ((j.2.2[(parO j.1 n).toNat]?).getD dN) with Kids := ((j.2.2[(parO j.1 n).toNat]?).getD dN).Kids ++ [({ Name := lastP en.Path, Ino := j.2.1 } : TApiKid)] } = c2 j n := by unfold c2; rw [hlast]
  rw [hc2]
  simp only [show chk (decide True) = some () from rfl, Option.bind_some, fork_same, bI]
  rw [idx_ok n1, Option.bind_some]
  have hlen2 : (c2 j n).length = j.2.2.length := by unfold c2; rw [List.length_set]
  obtain ⟨h5, h6⟩ := j1.rng _ _ j2
  obtain ⟨k1, k2⟩ := get_getD (l := c2 j n) h5 (by rw [hlen2]; exact h6)
  have hkind : (((c2 j n)[j.2.1.toNat]?).getD dN).Kind = e.Kind := by
   have F2 := FI.c2 j1 n j2 hv2
   obtain ⟨x, q1, q2, _⟩ := F2.nod _ _ j2
   have : ((c2 j n)[j.2.1.toNat]?).getD dN = x := by
    have q1' : (c2 j n)[j.2.1.toNat]? = some x := q1
    rw [q1']; rfl
   rw [this, bas_kind V q2]
   unfold ndR
   rw [if_neg n3, n4]
   rfl
  obtain ⟨q1, q2⟩ := get_getD (l := (c2 j n).set j.2.1.toNat (putPar (((c2 j n)[j.2.1.toNat]?).getD dN) (parO j.1 n))) p1 (by rw [List.length_set, hlen2]; exact p2)
  simp only [k1, Option.bind_some]
  unfold c3
  simp only
  rw [w1 (by omega), hkind]
  by_cases hk : e.Kind = 2
  ·rw [if_pos hk, show (e.Kind == 2) = true by simpa using hk, cond_true]
   unfold putPar at q1
   rw [hkind] at q1
   simp only [q1, Option.bind_some]
   unfold putPar
   rw [hkind]
   rfl
  ·rw [if_neg hk, show (e.Kind == 2) = false by simpa using hk, cond_false]
   unfold putLinks
   rw [hkind]
 ·unfold cstep
  refine ⟨?_, fun K w hw hK => O'.at_ K w hw hK⟩
  simp only
  rw [c3_len]
  unfold c2
  rw [List.length_set]
  exact hol'
theorem ref_Canon_eq : ref11_Canon l = some (canonN l) := by
 have hSl := SN_len V
 obtain ⟨r1, r2, r3⟩ := V.root_fok
 obtain ⟨r, q1, q2⟩ := ref_Node_eq (rootE l).Path r1 ⟨by omega, by omega⟩ r2
 have hordl : (ordN l).length = (SN l).length := by unfold ordN; rw [List.length_map]
 unfold ref11_Canon
 have hrl := ref_root_loop V
 have hrl' : loopO (fun s : Int × (List UInt8 × Int × Int × Int × Int × Int × Int × List UInt8 × List UInt8 × Int × List TApiAttr) => ref11_Canon_l1 l s.1 s.2.1 s.2.2.1 s.2.2.2.1 s.2.2.2.2.1 s.2.2.2.2.2.1 s.2.2.2.2.2.2.1 s.2.2.2.2.2.2.2.1 s.2.2.2.2.2.2.2.2.1 s.2.2.2.2.2.2.2.2.2.1 s.2.2.2.2.2.2.2.2.2.2.1 s.2.2.2.2.2.2.2.2.2.2.2) (0, (([] : List UInt8), 2, 493, 0, 0, 0, 0, [], ([] : List UInt8), 0, [])) = some (.inl (tupE (rootE l))) := hrl
 rw [hrl', bI]
 unfold tupE
 simp only
 rw [q1, Option.bind_some]
 have hmk : ({ ({ Kind := r.1, Mode := r.2.1, Uid := r.2.2.1, Gid := r.2.2.2.1, Time := r.2.2.2.2.1, Size := r.2.2.2.2.2.1, Data := r.2.2.2.2.2.2.1, Target := r.2.2.2.2.2.2.2.1, Dev := r.2.2.2.2.2.2.2.2.1, Attrs := r.2.2.2.2.2.2.2.2.2.1, Kids := [], Parent := r.2.2.2.2.2.2.2.2.2.2.2.1, Links := r.2.2.2.2.2.2.2.2.2.2.2.2 } : TApiNode) with Kids := r.2.2.2.2.2.2.2.2.2.2.1 } : TApiNode) = noLinks (nodeN (rootE l)) := q2
 rw [hmk]
 have hg : idx [noLinks (nodeN (rootE l))] 0 = some (noLinks (nodeN (rootE l))) := rfl
 rw [hg]
 simp only [Option.bind_some]
 have hset : List.set [noLinks (nodeN (rootE l))] (0 : Int).toNat ({ Kind := (noLinks (nodeN (rootE l))).Kind, Mode := (noLinks (nodeN (rootE l))).Mode, Uid := (noLinks (nodeN (rootE l))).Uid, Gid := (noLinks (nodeN (rootE l))).Gid, Time := (noLinks (nodeN (rootE l))).Time, Size := (noLinks (nodeN (rootE l))).Size, Data := (noLinks (nodeN (rootE l))).Data, Target := (noLinks (nodeN (rootE l))).Target, Dev := (noLinks (nodeN (rootE l))).Dev, Attrs := (noLinks (nodeN (rootE l))).Attrs, Kids := (noLinks (nodeN (rootE l))).Kids, Parent := (noLinks (nodeN (rootE l))).Parent, Links := 2 } : TApiNode) = [nodeN (rootE l)] := by
  show [_] = _
  congr 1
  unfold noLinks nodeN nodeV
  simp [r3]
 rw [hset, ref11_Order_eq V, Option.bind_some]
 have := loop_inv (body := fun s : List Int × Int × List TApiNode => ref11_Canon_l2 l (ordN l) s.1 s.2.1 s.2.2) (SN l).length (fun t s => s.2.1 = (t : Int) ∧ ∃ inos, (inos, s.2.2) = ((SN l).take t).foldl (cstep (F.ndOf l)) (mput ([] : Inos) [] 0, [nodeN (rootE l)]) ∧ OW l s.1 inos s.2.2) (fun r => r = .inl (canonN l)) (by
  rintro t ⟨owners, k, b⟩ ht ⟨hk, inos, hf, O⟩
  simp only at hk hf O
  subst hk
  have hx : (SN l)[t]? = some (SN l)[t] := List.getElem?_eq_getElem ht
  generalize (SN l)[t] = n at hx
  have H := canon_FIt V t
  rw [← hf] at H
  have hbl : b.length ≤ 100 := by

   have h1 : b = (((SN l).take t).foldl (cstep (F.ndOf l)) (mput ([] : Inos) [] 0, [nodeN (rootE l)])).2 := by rw [← hf]
   have h2 : ∀ (X : List TTreeNamed) (s : Inos × List TApiNode), (X.foldl (cstep (F.ndOf l)) s).2.length ≤ s.2.length + X.length := by
    intro X
    induction X with
    | nil => intro s; exact Nat.le_refl _
    | cons x X ih =>
     intro s
     rw [List.foldl_cons]
     refine Nat.le_trans (ih _) ?_
     rw [List.length_cons]
     have : (cstep (F.ndOf l) s x).2.length ≤ s.2.length + 1 := by
      unfold cstep
      simp only
      rw [c3_len]
      unfold c2
      rw [List.length_set]
      unfold c1
      split <;> simp
     omega
   rw [h1]
   refine Nat.le_trans (h2 _ _) ?_
   simp only [List.length_singleton, List.length_take]
   omega
  obtain ⟨owners', e1, O'⟩ := ref_step V hx H O hbl
  refine Or.inl ⟨_, e1, rfl, (cstep (F.ndOf l) (inos, b) n).1, ?_, O'⟩
  rw [List.take_add_one, hx, List.foldl_append, ← hf]
  rfl) (by
  rintro ⟨owners, k, b⟩ ⟨hk, inos, hf, O⟩
  simp only at hk hf O
  subst hk
  rw [List.take_length] at hf
  unfold ref11_Canon_l2
  simp only
  rw [dF (by omega), cond_false]
  refine ⟨_, rfl, ?_⟩
  rw [canonN_fold V, ← hf]) (s := ([], (0 : Int), [nodeN (rootE l)])) ⟨rfl, _, rfl, ⟨rfl, fun K v h hK => by
   rw [mget_put, if_neg hK] at h
   cases h⟩⟩
 obtain ⟨r', e1, rfl⟩ := this
 rw [e1, bI]
end
end Go.Proofs.YtkleajhiihbefaaGreatDoor.F
namespace Go.Proofs.YtkleajhiihbefaaGreatDoor.F
open Go Go.RowKit Go.Proofs.YtkleajhiihbefaaGreatDoor.K Go.Proofs.YtkleajhiihbefaaGreatDoor.K.E
theorem bne_self' {α : Type} [BEq α] [LawfulBEq α] (a : α) : (a != a) = false := by simp
theorem tsame_kids (a : List TApiKid) (h : a.length ≤ 1000) : slices_Equal_Kid a a = some true := by
 unfold slices_Equal_Kid
 rw [bne_self', cond_false]
 have := loop_first a (fun s => slices_Equal_Kid_l1 a a s) (fun t => (t : Int)) (fun _ _ => none) (.inl ()) (fun t x hx => by
  have := lt_of_get hx
  unfold slices_Equal_Kid_l1
  simp only [idx_ok hx, Option.bind_some, beq_self_eq_true, Bool.and_self, Bool.not_true, cond_false]
  rw [dT (by omega), cond_true, w1 (by omega)]) (by unfold slices_Equal_Kid_l1; rw [dF (by omega)]; rfl)
 rw [show ((0 : Int)) = ((0 : Nat) : Int) from rfl, this, firstQ_none.2 fun _ _ _ => rfl]
 rfl
theorem tsame_attrs (a : List TApiAttr) (h : a.length ≤ 1000) : slices_EqualFunc_Attr a a = some true := by
 unfold slices_EqualFunc_Attr
 rw [bne_self', cond_false]
 have := loop_first a (fun s => slices_EqualFunc_Attr_l1 a a s) (fun t => (t : Int)) (fun _ _ => none) (.inl ()) (fun t x hx => by
  have := lt_of_get hx
  unfold slices_EqualFunc_Attr_l1 tree_alike_1 bytes_Equal
  simp only [idx_ok hx, Option.bind_some, beq_self_eq_true, cond_true, Bool.not_true, cond_false]
  rw [dT (by omega), cond_true, w1 (by omega)]) (by unfold slices_EqualFunc_Attr_l1; rw [dF (by omega)]; rfl)
 rw [show ((0 : Int)) = ((0 : Nat) : Int) from rfl, this, firstQ_none.2 fun _ _ _ => rfl]
 rfl
theorem tsame_nodes (a : List TApiNode) (h : a.length ≤ 1000) (hn : ∀ x ∈ a, x.Kids.length ≤ 100 ∧ x.Attrs.length ≤ 64) : tree_Same a a = some true := by
 unfold tree_Same slices_EqualFunc_Node
 rw [bne_self', cond_false]
 have := loop_first a (fun s => slices_EqualFunc_Node_l1 a a s) (fun t => (t : Int)) (fun _ _ => none) (.inl ()) (fun t x hx => by
  have := lt_of_get hx
  obtain ⟨h1, h2⟩ := hn x (mem_of_get hx)
  unfold slices_EqualFunc_Node_l1 tree_alike bytes_Equal
  rw [dT (by omega), cond_true, idx_ok hx]
  simp only [Option.bind_some, bne_self', cond_false, bI, beq_self_eq_true, cond_true, tsame_attrs _ (show x.Attrs.length ≤ 1000 by omega), tsame_kids _ (show x.Kids.length ≤ 1000 by omega), Bool.not_true]
  rw [w1 (by omega)]) (by unfold slices_EqualFunc_Node_l1; rw [dF (by omega)]; rfl)
 rw [show ((0 : Int)) = ((0 : Nat) : Int) from rfl, this, firstQ_none.2 fun _ _ _ => rfl]
 rfl
section
variable {l : List TApiEntry} (V : VE l) (hl : l.length ≤ 60)
include V hl
theorem tree_List_eq : tree_List (canonN l) = some (listN l, 0) := by
 obtain ⟨f, e1⟩ := lister_eq V
 have V2 := list_ve V hl
 obtain ⟨g1, g2, g3⟩ := tree_Canon_eq V2
 unfold tree_List pnE
 rw [e1, Option.bind_some]
 simp only
 rw [g1, Option.bind_some]
 simp only
 rw [canon_list V hl, show ((0 : Int) != 0) = false from rfl, cond_false]
 rw [canon_list V hl] at g2 g3
 rw [tsame_nodes _ (by omega) g3]
 rfl
end
end Go.Proofs.YtkleajhiihbefaaGreatDoor.F
namespace Go.Proofs.YtkleajhiihbefaaGreatDoor.F
open Go Go.RowKit Go.Proofs.YtkleajhiihbefaaGreatDoor.K Go.Proofs.YtkleajhiihbefaaGreatDoor.K.E
structure GE (l : List TApiEntry) : Prop where
 pe : PE l
 data : ∀ e ∈ l, e.Data.length ≤ 80000
 attr : ∀ e ∈ l, e.Attrs.length ≤ 70
 av : ∀ e ∈ l, ∀ a ∈ e.Attrs, a.Value.length ≤ 4096
theorem list_ge {l : List TApiEntry} (V : VE l) (hl : l.length ≤ 60) : GE (listN l) := by
 have V2 := list_ve V hl
 have key : ∀ e ∈ listN l, e.Attrs.length ≤ 70 ∧ ∀ a ∈ e.Attrs, a.Value.length ≤ 4096 := by
  intro e he
  by_cases h6 : e.Kind = 6
  ·unfold listN at he
   rcases List.mem_cons.1 he with h | h
   ·obtain ⟨x0, q1, q2⟩ := root_bas V
    obtain ⟨r1, r2, r3⟩ := V.root_fok
    rw [h, q1] at h6
    have : x0.Kind = 6 := h6
    rw [bas_kind V q2] at this
    have hk : (rootE l).Kind = 6 := this
    omega
   ·obtain ⟨n, hn, rfl⟩ := List.mem_map.1 h
    by_cases hr : rep (SN l) (inosN l) n = n
    ·obtain ⟨e, he, hp, hk, hf, hb⟩ := ent_full V hn hr
     rw [hf] at h6
     have h7 : (nO (canonN l) (inosN l) n).Kind = 6 := h6
     rw [bas_kind V hb.1] at h7
     exact absurd h7 hk
    ·rw [ent_hard V hn hr]
     exact ⟨by simp [hardEnt], fun a ha => by cases ha⟩
  ·have := V2.fok he h6
   exact ⟨by have := this.al; omega, fun a ha => (this.av a ha).2⟩
 exact ⟨V2.pe, V2.data, fun e he => (key e he).1, fun e he => (key e he).2⟩
def look (l : List TApiEntry) (p : List UInt8) : Option TApiEntry := l.find? (fun e => e.Path == p)
theorem look_none {l : List TApiEntry} {p : List UInt8} : look l p = none ↔ ∀ e ∈ l, e.Path ≠ p := by
 unfold look
 simp
theorem look_some {l : List TApiEntry} {p : List UInt8} {e : TApiEntry} (h : look l p = some e) : e ∈ l ∧ e.Path = p := by
 unfold look at h
 exact ⟨List.mem_of_find?_eq_some h, by simpa using List.find?_some h⟩
theorem PE.look {l : List TApiEntry} (V : PE l) {e : TApiEntry} (he : e ∈ l) : F.look l e.Path = some e := by
 cases h : F.look l e.Path with
 | none => exact absurd rfl (look_none.1 h e he)
 | some f => rw [V.inj (look_some h).1 he (look_some h).2]
theorem PE.sub {l m : List TApiEntry} (V : PE (l ++ m)) : PE l where
 len := by have := V.len; rw [List.length_append] at this; omega
 pth e he := V.pth e (List.mem_append_left _ he)
 dist i e h k y hk hy := V.dist i e (by rw [List.getElem?_append_left (lt_of_get h)]; exact h) k y hk (by rw [List.getElem?_append_left (lt_of_get hy)]; exact hy)
def mapN (l : List TApiEntry) : List (List UInt8 × TApiEntry) := l.foldl (fun b e => mput b e.Path e) []
theorem mapN_snoc (l : List TApiEntry) (e : TApiEntry) : mapN (l ++ [e]) = mput (mapN l) e.Path e := by
 unfold mapN
 rw [List.foldl_append]
 rfl
theorem revI {α : Type} {P : List α → Prop} (h0 : P []) (h1 : ∀ l x, P l → P (l ++ [x])) (l : List α) : P l := by
 have : ∀ l : List α, P l.reverse := by
  intro l
  induction l with
  | nil => exact h0
  | cons x l ih => rw [List.reverse_cons]; exact h1 _ _ ih
 have := this l.reverse
 rwa [List.reverse_reverse] at this
theorem mapN_get {l : List TApiEntry} (p : List UInt8) : PE l → mget (mapN l) p = look l p := by
 induction l using revI with
 | h0 => intro _; rfl
 | h1 l x ih =>
  intro V
  rw [mapN_snoc, mget_put]
  by_cases h : p = x.Path
  ·rw [if_pos h, h, V.look (by simp)]
  ·rw [if_neg h, ih V.sub]
   unfold look
   rw [List.find?_append]
   simp [Ne.symm h]
theorem mput_keys {κ β : Type} [BEq κ] [LawfulBEq κ] (k : κ) (v : β) : ∀ l : List (κ × β), (mput l k v).map (·.1) = if k ∈ l.map (·.1) then l.map (·.1) else l.map (·.1) ++ [k]
 | [] => by simp [mput]
 | x :: l => by
  have ih := mput_keys k v l
  unfold mput
  by_cases h : k = x.1
  ·rw [show (k == x.1) = true by simpa using h, if_pos rfl, if_pos (by simp [h])]
   simp [h]
  ·rw [show (k == x.1) = false by simpa using h]
   simp only [Bool.false_eq_true, if_false, List.map_cons, List.mem_cons, h, false_or, ih]
   split <;> rfl
theorem mapN_keys (l : List TApiEntry) : ((mapN l).map (·.1)).Nodup ∧ (mapN l).length ≤ l.length := by
 induction l using revI with
 | h0 => exact ⟨by simp [mapN], by simp [mapN]⟩
 | h1 l x ih =>
  obtain ⟨h1, h2⟩ := ih
  rw [mapN_snoc]
  have e := mput_keys x.Path x (mapN l)
  have el := congrArg List.length e
  rw [List.length_map] at el
  constructor
  ·rw [e]
   split
   ·exact h1
   ·rename_i hn
    rw [List.nodup_append]
    exact ⟨h1, by simp, fun a ha b hb => by rw [List.mem_singleton.1 hb]; intro e; exact hn (e ▸ ha)⟩
  ·rw [el, List.length_append]
   split
   ·rw [List.length_map]; omega
   ·rw [List.length_append, List.length_map]; simp only [List.length_cons, List.length_nil]; omega
theorem mget_key {κ β : Type} [BEq κ] [LawfulBEq κ] (l : List (κ × β)) (k : κ) : k ∈ l.map (·.1) ↔ (mget l k).isSome = true := by
 unfold mget
 rw [Option.isSome_map, List.find?_isSome]
 simp only [List.mem_map, beq_iff_eq]
 exact ⟨fun ⟨x, h, e⟩ => ⟨x, h, e.symm⟩, fun ⟨x, h, e⟩ => ⟨x, h, e.symm⟩⟩
theorem mem_keysU {β : Type} {k : List UInt8} : ∀ {ls pre : List (List (List UInt8 × β))}, k ∈ keysU pre ls ↔ (∃ m ∈ ls, (mget m k).isSome = true) ∧ ∀ o ∈ pre, (mget o k).isSome = false
 | [], pre => by simp [keysU]
 | m :: r, pre => by
  unfold keysU
  rw [List.mem_append, mem_keysU (ls := r), List.mem_filter, mget_key]
  simp only [Bool.not_eq_true', List.any_eq_false, List.mem_append, List.mem_singleton, List.mem_cons, List.not_mem_nil, or_false]
  constructor
  ·rintro (⟨h1, h2⟩ | ⟨⟨x, h1, h2⟩, h3⟩)
   ·exact ⟨⟨m, Or.inl rfl, h1⟩, fun o ho => by simpa using h2 o ho⟩
   ·exact ⟨⟨x, Or.inr h1, h2⟩, fun o ho => h3 o (Or.inl ho)⟩
  ·rintro ⟨⟨x, h1, h2⟩, h3⟩
   by_cases hm : (mget m k).isSome = true
   ·exact Or.inl ⟨hm, fun o ho => by simpa using h3 o ho⟩
   ·right
    refine ⟨?_, ?_⟩
    ·rcases h1 with rfl | h1
     ·exact absurd h2 hm
     ·exact ⟨x, h1, h2⟩
    ·rintro o (ho | rfl)
     ·exact h3 o ho
     ·simpa using hm
theorem nodup_keysU {β : Type} : ∀ {ls pre : List (List (List UInt8 × β))}, (∀ m ∈ ls, (m.map (·.1)).Nodup) → (keysU pre ls).Nodup
 | [], pre, _ => by simp [keysU]
 | m :: r, pre, h => by
  unfold keysU
  rw [List.nodup_append]
  refine ⟨(h m (List.mem_cons_self ..)).filter _, nodup_keysU fun x hx => h x (List.mem_cons_of_mem _ hx), ?_⟩
  intro a ha b hb e
  subst e
  have h1 := (mget_key m a).1 (List.mem_filter.1 ha).1
  have h2 := (mem_keysU.1 hb).2 m (by simp)
  rw [h1] at h2
  cases h2
theorem len_keysU {β : Type} : ∀ {ls pre : List (List (List UInt8 × β))} {n : Nat}, (∀ m ∈ ls, m.length ≤ n) → (keysU pre ls).length ≤ ls.length * n
 | [], pre, n, _ => by simp [keysU]
 | m :: r, pre, n, h => by
  have ih := len_keysU (ls := r) (pre := pre ++ [m]) fun x hx => h x (List.mem_cons_of_mem _ hx)
  have h1 := h m (List.mem_cons_self ..)
  have h2 := List.length_filter_le (fun k => !pre.any (fun o => (mget o k).isSome)) (m.map (·.1))
  unfold keysU
  rw [List.length_map] at h2
  rw [List.length_append, List.length_cons, Nat.succ_mul]
  omega
def prt (p : List UInt8) : List (List UInt8) := if p = [] then [] else spl p
theorem prt_inj {a b : List UInt8} (h : prt a = prt b) : a = b := by
 unfold prt at h
 by_cases ha : a = []
 ·by_cases hb : b = []
  ·rw [ha, hb]
  ·rw [if_pos ha, if_neg hb] at h; exact absurd h.symm (spl_ne b)
 ·by_cases hb : b = []
  ·rw [if_neg ha, if_pos hb] at h; exact absurd h (spl_ne a)
  ·rw [if_neg ha, if_neg hb] at h; exact spl_inj h
theorem diff_parts_eq {p : List UInt8} (h : p.length ≤ 1000000) : diff_parts p = some (prt p) := by
 unfold diff_parts prt
 by_cases hp : p = []
 ·subst hp; rfl
 ·rw [show (p == ([] : List UInt8)) = false by simpa using hp, cond_false, strings_Split_eq h, if_neg hp]
  rfl
theorem prt_len (p : List UInt8) : (prt p).length ≤ p.length + 1 := by
 unfold prt
 split
 ·simp
 ·rw [spl_len]
  have := List.count_le_length (a := (47 : UInt8)) (l := p)
  omega
theorem diff_order_eq {a b : List UInt8} (ha : a.length ≤ 1000000) (hb : b.length ≤ 1000000) : diff_order a b = some (cmpLL (prt a) (prt b)) := by
 have h1 := prt_len a
 have h2 := prt_len b
 unfold diff_order
 rw [diff_parts_eq ha, Option.bind_some, diff_parts_eq hb, Option.bind_some, name_Order_eq (by omega) (by omega)]
 rfl
def kL (a b : List UInt8) : Bool := pL (prt a) (prt b)
def KS (l : List (List UInt8)) : Prop := l.Pairwise (fun a b => kL a b = true)
theorem kL_irr (a : List UInt8) : kL a a = false := pL_sto.irr _
theorem kL_tr {a b c : List UInt8} : kL a b = true → kL b c = true → kL a c = true := pL_sto.tr _ _ _
theorem st_uniq {α : Type} {r : α → α → Prop} (irr : ∀ x, ¬ r x x) (tr : ∀ x y z, r x y → r y z → r x z) : ∀ {a b : List α}, a.Pairwise r → b.Pairwise r → (∀ x, x ∈ a ↔ x ∈ b) → a = b
 | [], [], _, _, _ => rfl
 | [], y :: b, _, _, h => absurd ((h y).2 (List.mem_cons_self ..)) (by simp)
 | x :: a, [], _, _, h => absurd ((h x).1 (List.mem_cons_self ..)) (by simp)
 | x :: a, y :: b, h1, h2, h => by
  rw [List.pairwise_cons] at h1 h2
  have e : x = y := by
   rcases List.mem_cons.1 ((h x).1 (List.mem_cons_self ..)) with g | g
   ·exact g
   ·rcases List.mem_cons.1 ((h y).2 (List.mem_cons_self ..)) with g2 | g2
    ·exact g2.symm
    ·exact absurd (tr _ _ _ (h2.1 x g) (h1.1 y g2)) (irr y)
  subst e
  rw [st_uniq irr tr h1.2 h2.2 fun z => ?_]
  constructor
  ·intro hz
   rcases List.mem_cons.1 ((h z).1 (List.mem_cons_of_mem _ hz)) with g | g
   ·subst g; exact absurd (h1.1 z hz) (irr z)
   ·exact g
  ·intro hz
   rcases List.mem_cons.1 ((h z).2 (List.mem_cons_of_mem _ hz)) with g | g
   ·subst g; exact absurd (h2.1 z hz) (irr z)
   ·exact g
theorem KS.uniq {a b : List (List UInt8)} (h1 : KS a) (h2 : KS b) (h : ∀ p, p ∈ a ↔ p ∈ b) : a = b := st_uniq (r := fun a b => kL a b = true) (fun x h => by rw [kL_irr] at h; cases h) (fun x y z => kL_tr) h1 h2 h
theorem sort_String_eq {l : List (List UInt8)} (hl : l.length ≤ 1000000) (hp : ∀ p ∈ l, p.length ≤ 1000000) (hd : l.Nodup) : ∃ r, sort_String l = some r ∧ KS r ∧ ∀ p, p ∈ r ↔ p ∈ l := by
 have hc : ∀ x ∈ l, ∀ y ∈ l, ∃ v, diff_order x y = some v ∧ decide (v < 0) = pL (prt x) (prt y) := fun x hx y hy => ⟨_, diff_order_eq (hp x hx) (hp y hy), cmpLL_neg _ _⟩
 refine ⟨_, sortBy_key (key := prt) pL_sto hl hc (fun x _ y _ => prt_inj), isort_strict (key := prt) pL_sto (fun x hx y hy => ?_) ?_, fun p => (isort_perm _ _).mem_iff⟩
 ·obtain ⟨v, h1, h2⟩ := hc x hx y hy
  exact ltC_of h1 h2
 ·exact hd.imp fun h e => h (prt_inj e)
theorem diff_keys_eq {x y : List TApiEntry} (X : PE x) (Y : PE y) : ∃ r, diff_keys [mapN x, mapN y] = some r ∧ KS r ∧ (∀ p, p ∈ r ↔ (∃ e ∈ x ++ y, e.Path = p)) ∧ r.length ≤ 1000 := by
 have hmem : ∀ p, p ∈ keysU [] [mapN x, mapN y] ↔ (∃ e ∈ x ++ y, e.Path = p) := by
  intro p
  have hk : ∀ {l : List TApiEntry}, PE l → ((mget (mapN l) p).isSome = true ↔ (∃ e ∈ l, e.Path = p)) := by
   intro l V
   rw [mapN_get p V]
   cases h : look l p with
   | none => exact ⟨fun h => (by cases h), fun ⟨e, he, g⟩ => absurd g (look_none.1 h e he)⟩
   | some e => exact ⟨fun _ => ⟨e, look_some h⟩, fun _ => rfl⟩
  rw [mem_keysU]
  constructor
  ·rintro ⟨⟨m, hm, h⟩, _⟩
   simp only [List.mem_cons, List.mem_nil_iff, or_false] at hm
   rcases hm with rfl | rfl
   ·obtain ⟨e, h1, h2⟩ := (hk X).1 h
    exact ⟨e, List.mem_append_left _ h1, h2⟩
   ·obtain ⟨e, h1, h2⟩ := (hk Y).1 h
    exact ⟨e, List.mem_append_right _ h1, h2⟩
  ·rintro ⟨e, he, h2⟩
   refine ⟨?_, by simp⟩
   rcases List.mem_append.1 he with h | h
   ·exact ⟨mapN x, by simp, (hk X).2 ⟨e, h, h2⟩⟩
   ·exact ⟨mapN y, by simp, (hk Y).2 ⟨e, h, h2⟩⟩
 have hlen : (keysU [] [mapN x, mapN y]).length ≤ 600 := by
  have := len_keysU (ls := [mapN x, mapN y]) (pre := []) (n := 300) (fun m hm => by
   simp only [List.mem_cons, List.mem_nil_iff, or_false] at hm
   rcases hm with rfl | rfl
   ·exact Nat.le_trans (mapN_keys x).2 X.len
   ·exact Nat.le_trans (mapN_keys y).2 Y.len)
  simpa using this
 have hpl : ∀ {l : List TApiEntry}, PE l → ∀ e ∈ l, e.Path.length ≤ 4096 := fun V e he => by
  by_cases h : e.Path = []
  ·rw [h]; simp
  ·exact (V.pth e he h).1
 obtain ⟨r, h1, h2, h3⟩ := sort_String_eq (l := keysU [] [mapN x, mapN y]) (by omega) (fun p hp => by
  obtain ⟨e, he, rfl⟩ := (hmem p).1 hp
  rcases List.mem_append.1 he with h | h
  ·have := hpl X e h; omega
  ·have := hpl Y e h; omega) (nodup_keysU fun m hm => by
   simp only [List.mem_cons, List.mem_nil_iff, or_false] at hm
   rcases hm with rfl | rfl
   ·exact (mapN_keys x).1
   ·exact (mapN_keys y).1)
 refine ⟨r, ?_, h2, fun p => (h3 p).trans (hmem p), ?_⟩
 ·unfold diff_keys
  rw [dT (by omega), show chk true = some () from rfl, Option.bind_some, h1]
 ·have hn : r.Nodup := h2.imp fun h e => by rw [e, kL_irr] at h; cases h
  have := (perm_of_nodup hn (nodup_keysU (ls := [mapN x, mapN y]) (pre := []) fun m hm => by
   simp only [List.mem_cons, List.mem_nil_iff, or_false] at hm
   rcases hm with rfl | rfl
   ·exact (mapN_keys x).1
   ·exact (mapN_keys y).1) h3).length_eq
  omega
end Go.Proofs.YtkleajhiihbefaaGreatDoor.F
namespace Go.Proofs.YtkleajhiihbefaaGreatDoor.F
open Go Go.RowKit Go.Proofs.YtkleajhiihbefaaGreatDoor.K Go.Proofs.YtkleajhiihbefaaGreatDoor.K.E
theorem made29 (l : List TApiEntry) : law29_of l = some ([], false) ∨ (VE l ∧ l.length ≤ 40 ∧ law29_of l = some (canonN l, true)) := by
 obtain ⟨bm, em, hm⟩ := Much_eq l
 unfold law29_of
 rw [em]
 simp only [Option.bind_some]
 cases bm with
 | true => exact .inl rfl
 | false =>
 have S := hm rfl
 have hl40 := S.len
 obtain ⟨⟨cp, cf⟩, ec, hc⟩ := ref_Check_eq S
 rw [ec]
 simp only [Option.bind_some, cond_false]
 simp only at hc
 by_cases hcf : cf = 0
 ·right
  have V := hc hcf
  refine ⟨V, hl40, ?_⟩
  rw [show (cf != 0) = false by simpa using hcf, cond_false, ref_Canon_eq V]
  rfl
 ·left
  rw [show (cf != 0) = true by simpa using hcf, cond_true]
theorem diff_list_eq {l : List TApiEntry} (V : VE l) (hl : l.length ≤ 60) : diff_list (canonN l) = some (mapN (listN l), true) := by
 have hn := (list_ve V hl).len
 unfold diff_list
 rw [tree_List_eq V hl, Option.bind_some]
 have := loop_inv (body := fun s : Int × List (List UInt8 × TApiEntry) => diff_list_l1 (listN l, 0) s.1 s.2) (listN l).length (fun t s => s = ((t : Int), mapN ((listN l).take t))) (fun r => r = .inl (mapN (listN l))) (by
  rintro t _ ht rfl
  have hx : (listN l)[t]? = some (listN l)[t] := List.getElem?_eq_getElem ht
  refine Or.inl ⟨_, ?_, rfl⟩
  unfold diff_list_l1
  simp only
  rw [dT (by omega), idx_ok hx, cond_true, Option.bind_some, w1 (by omega), List.take_add_one, hx, Option.toList_some, mapN_snoc]) (by
  rintro _ rfl
  unfold diff_list_l1
  simp only
  rw [dF (by omega)]
  exact ⟨_, rfl, by rw [List.take_length]⟩) (s := (0, [])) rfl
 obtain ⟨r, h1, rfl⟩ := this
 rw [h1, bI]
 rfl
def pE (p : List UInt8) : TApiEntry := { Path := p, Kind := 0, Mode := 0, Uid := 0, Gid := 0, Time := 0, Size := 0, Data := [], Target := ([] : List UInt8), Dev := 0, Attrs := [] }
def ed1 (x y : List TApiEntry) (p : List UInt8) : List TApiEdit := match look y p with
 | none => [{ Do := 1, Entry := pE p }]
 | some f => match look x p with
  | none => [{ Do := 2, Entry := f }]
  | some e => if e = f then [] else [{ Do := 3, Entry := f }]
theorem ed1_len (x y : List TApiEntry) (p : List UInt8) : (ed1 x y p).length ≤ 1 := by
 unfold ed1
 split
 ·simp
 ·split
  ·simp
  ·split <;> simp
def edN (x y : List TApiEntry) (ks : List (List UInt8)) : List TApiEdit := ks.flatMap (ed1 x y)
theorem edN_len (x y : List TApiEntry) (ks : List (List UInt8)) : (edN x y ks).length ≤ ks.length := by
 unfold edN
 induction ks with
 | nil => simp
 | cons k ks ih =>
  have := ed1_len x y k
  rw [List.flatMap_cons, List.length_append, List.length_cons]
  omega
theorem edN_take {x y : List TApiEntry} {ks : List (List UInt8)} {t : Nat} {p : List UInt8} (h : ks[t]? = some p) : edN x y (ks.take (t + 1)) = edN x y (ks.take t) ++ ed1 x y p := by
 unfold edN
 rw [List.take_add_one, h, List.flatMap_append]
 simp
structure SzE (e : TApiEntry) : Prop where
 data : e.Data.length ≤ 80000
 attr : e.Attrs.length ≤ 70
 av : ∀ a ∈ e.Attrs, a.Value.length ≤ 4096
theorem GE.sz {l : List TApiEntry} (V : GE l) {e : TApiEntry} (he : e ∈ l) : SzE e := ⟨V.data e he, V.attr e he, V.av e he⟩
theorem copied_eq {e : TApiEntry} (V : SzE e) : diff_copied e.Path e.Kind e.Mode e.Uid e.Gid e.Time e.Size e.Data e.Target e.Dev e.Attrs = some (e.Path, e.Kind, e.Mode, e.Uid, e.Gid, e.Time, e.Size, e.Data, e.Target, e.Dev, e.Attrs) := by
 have hd := V.data
 have ha := V.attr
 have hv := V.av
 unfold diff_copied bytes_Clone
 rw [app_ok (by simp only [List.length_nil]; omega), Option.bind_some, List.nil_append]
 have := loop_inv (body := fun s : Int × ((List UInt8) × Int × Int × Int × Int × Int × Int × (List UInt8) × (List UInt8) × Int × (List TApiAttr)) => diff_copied_l1 e.Attrs s.1 s.2.1 s.2.2.1 s.2.2.2.1 s.2.2.2.2.1 s.2.2.2.2.2.1 s.2.2.2.2.2.2.1 s.2.2.2.2.2.2.2.1 s.2.2.2.2.2.2.2.2.1 s.2.2.2.2.2.2.2.2.2.1 s.2.2.2.2.2.2.2.2.2.2.1 s.2.2.2.2.2.2.2.2.2.2.2) e.Attrs.length (fun t s => s = ((t : Int), (e.Path, e.Kind, e.Mode, e.Uid, e.Gid, e.Time, e.Size, e.Data, e.Target, e.Dev, e.Attrs.take t))) (fun r => r = .inl (e.Path, e.Kind, e.Mode, e.Uid, e.Gid, e.Time, e.Size, e.Data, e.Target, e.Dev, e.Attrs)) (by
  rintro t _ ht rfl
  have hx : e.Attrs[t]? = some e.Attrs[t] := List.getElem?_eq_getElem ht
  have hvx := hv _ (mem_of_get hx)
  refine Or.inl ⟨_, ?_, rfl⟩
  unfold diff_copied_l1 bytes_Clone
  simp only [dup_eq, fork_same]
  rw [dT (by omega), idx_ok hx, cond_true, Option.bind_some, app_ok (by simp only [List.length_nil]; omega), Option.bind_some, List.nil_append, app_one (by rw [List.length_take]; omega), Option.bind_some, w1 (by omega), List.take_add_one, hx, Option.toList_some]) (by
  rintro _ rfl
  unfold diff_copied_l1
  simp only
  rw [dF (by omega)]
  exact ⟨_, rfl, by rw [List.take_length]⟩) (s := (0, (e.Path, e.Kind, e.Mode, e.Uid, e.Gid, e.Time, e.Size, e.Data, e.Target, e.Dev, []))) rfl
 obtain ⟨r, h1, rfl⟩ := this
 rw [h1, bI]
theorem firstQ_eq {α ρ : Type} [DecidableEq α] {a b : List α} (h : a.length = b.length) (r : ρ) : firstQ (fun t x => if b[t]? = some x then none else some r) 0 a = if a = b then none else some r := by
 by_cases e : a = b
 ·rw [if_pos e, firstQ_none.2 fun t x hx => by rw [Nat.zero_add, ← e, if_pos hx]]
 ·rw [if_neg e]
  cases hf : firstQ (fun t x => if b[t]? = some x then none else some r) 0 a with
  | none =>
   refine absurd (List.ext_getElem? fun t => ?_) e
   have := firstQ_none.1 hf t
   rw [Nat.zero_add] at this
   cases ha : a[t]? with
   | none => rw [List.getElem?_eq_none_iff] at ha; exact (List.getElem?_eq_none (by omega)).symm
   | some x =>
    have := this x ha
    by_cases hb : b[t]? = some x
    ·exact hb.symm
    ·rw [if_neg hb] at this; cases this
  | some v =>
   obtain ⟨t, x, h1, h2⟩ := firstQ_some hf
   split at h2
   ·cases h2
   ·cases h2; rfl
theorem attrs_same {a b : List TApiAttr} (ha : a.length ≤ 1000) (hb : b.length ≤ 1000) : diff_attrs a b = some (decide (a = b)) := by
 unfold diff_attrs slices_EqualFunc_Attr_2
 by_cases hl : a.length = b.length
 ·rw [show ((a.length : Int) != (b.length : Int)) = false by rw [hl]; simp, cond_false]
  have := loop_first a (fun s => slices_EqualFunc_Attr_2_l1 a b s) (fun t => (t : Int)) (fun t x => if b[t]? = some x then none else some (.inr false)) (.inl ()) (fun t x hx => by
   have h1 := lt_of_get hx
   have hy : b[t]? = some b[t] := List.getElem?_eq_getElem (by omega)
   generalize b[t] = y at hy
   unfold slices_EqualFunc_Attr_2_l1 diff_attrs_1 bytes_Equal
   rw [dT (by omega), cond_true, idx_ok hx, idx_ok hy, hy]
   simp only [Option.bind_some]
   obtain ⟨n1, v1⟩ := x
   obtain ⟨n2, v2⟩ := y
   simp only [Option.some.injEq, TApiAttr.mk.injEq]
   by_cases hn : n1 = n2
   ·rw [show (n1 == n2) = true by simpa using hn, cond_true]
    by_cases hv : v1 = v2
    ·rw [show (v1 == v2) = true by simpa using hv, if_pos ⟨hn.symm, hv.symm⟩]
     simp only [Option.bind_some, Bool.not_true, cond_false]
     rw [w1 (by omega)]
    ·rw [show (v1 == v2) = false by simpa using hv, if_neg fun h => hv h.2.symm]
     rfl
   ·rw [show (n1 == n2) = false by simpa using hn, cond_false, if_neg fun h => hn h.1.symm]
    rfl) (by unfold slices_EqualFunc_Attr_2_l1; rw [dF (by omega)]; rfl)
  rw [show ((0 : Int)) = ((0 : Nat) : Int) from rfl, this, firstQ_eq hl]
  by_cases e : a = b
  ·rw [if_pos e, dT e]; rfl
  ·rw [if_neg e, dF e]; rfl
 ·rw [show ((a.length : Int) != (b.length : Int)) = true by simp only [bne_iff_ne, ne_eq]; omega, cond_true, dF fun e => hl (by rw [e])]
  rfl
theorem rattrs_same {a b : List TApiAttr} (ha : a.length ≤ 1000) (hb : b.length ≤ 1000) : ref11_SameAttrs a b = some (decide (a = b)) := by
 unfold ref11_SameAttrs
 by_cases hl : a.length = b.length
 ·rw [show ((a.length : Int) != (b.length : Int)) = false by rw [hl]; simp, cond_false]
  have := loop_first a (fun s => ref11_SameAttrs_l1 a b s) (fun t => (t : Int)) (fun t x => if b[t]? = some x then none else some (.inr false)) (.inl ()) (fun t x hx => by
   have h1 := lt_of_get hx
   have hy : b[t]? = some b[t] := List.getElem?_eq_getElem (by omega)
   generalize b[t] = y at hy
   unfold ref11_SameAttrs_l1
   rw [dT (by omega), cond_true, idx_ok hx, idx_ok hy, hy]
   simp only [Option.bind_some]
   obtain ⟨n1, v1⟩ := x
   obtain ⟨n2, v2⟩ := y
   simp only [Option.some.injEq, TApiAttr.mk.injEq]
   by_cases hn : n1 = n2
   ·rw [show (n1 != n2) = false by simpa using hn, cond_false]
    by_cases hv : v1 = v2
    ·rw [show (v1 != v2) = false by simpa using hv, if_pos ⟨hn.symm, hv.symm⟩, cond_false, w1 (by omega)]
    ·rw [show (v1 != v2) = true by simpa using hv, if_neg fun h => hv h.2.symm]
     rfl
   ·rw [show (n1 != n2) = true by simpa using hn, cond_true, if_neg fun h => hn h.1.symm]) (by unfold ref11_SameAttrs_l1; rw [dF (by omega)]; rfl)
  rw [show ((0 : Int)) = ((0 : Nat) : Int) from rfl, this, firstQ_eq hl]
  by_cases e : a = b
  ·rw [if_pos e, dT e]; rfl
  ·rw [if_neg e, dF e]; rfl
 ·rw [show ((a.length : Int) != (b.length : Int)) = true by simp only [bne_iff_ne, ne_eq]; omega, cond_true, dF fun e => hl (by rw [e])]
theorem bqd {α : Type} [DecidableEq α] [BEq α] [LawfulBEq α] (a b : α) : (a == b) = decide (a = b) := by
 by_cases h : a = b
 ·rw [dT h]; simpa using h
 ·rw [dF h]; simpa using h
theorem fields_eq {e f : TApiEntry} (he : e.Attrs.length ≤ 70) (hf : f.Attrs.length ≤ 70) : ∃ r, diff_Fields e.Path e.Kind e.Mode e.Uid e.Gid e.Time e.Size e.Data e.Target e.Dev e.Attrs f.Path f.Kind f.Mode f.Uid f.Gid f.Time f.Size f.Data f.Target f.Dev f.Attrs = some r ∧ decide ((r.length : Int) > 0) = !decide (e = f) := by
 have h11 := attrs_same (a := e.Attrs) (b := f.Attrs) (by omega) (by omega)
 unfold diff_Fields diff_all_1 diff_all_2 diff_all_3 diff_all_4 diff_all_5 diff_all_6 diff_all_7 diff_all_8 diff_all_9 diff_all_10 diff_all_11 bytes_Equal
 rw [h11]
 simp only [fieldsF, Option.bind_some]
 refine ⟨_, rfl, ?_⟩
 obtain ⟨e1, e2, e3, e4, e5, e6, e7, e8, e9, e10, e11⟩ := e
 obtain ⟨f1, f2, f3, f4, f5, f6, f7, f8, f9, f10, f11⟩ := f
 simp only [TApiEntry.mk.injEq, Bool.decide_and]
 have hb : ∀ (b : Bool) (n : List UInt8) (l : List (List UInt8)), decide (((cond b l (n :: l)).length : Int) > 0) = !(b && !decide ((l.length : Int) > 0)) := by
  intro b n l
  cases b with
  | true => simp
  | false => rw [cond_false, dT (by simp only [List.length_cons]; omega)]; rfl
 simp only [hb, Bool.not_not]
 rw [show decide ((([] : List (List UInt8)).length : Int) > 0) = false from rfl]
 simp only [Bool.not_false, Bool.and_true, bqd]
section
variable {x y : List TApiEntry} (X : GE x) (Y : GE y)
include X Y
theorem diff_step {q1 q2 : Bool} {ks : List (List UInt8)} (hk : ks.length ≤ 1000) {t : Nat} {p : List UInt8} (hp : ks[t]? = some p) {out : List TApiEdit} (ho : out.length ≤ 1000) : diff_Diff_l1 (mapN x, q1) (mapN y, q2) ks out (t : Int) = some (.inl (out ++ ed1 x y p, ((t + 1 : Nat) : Int))) := by
 have ht := lt_of_get hp
 unfold diff_Diff_l1 diff_listing_portmanteau_api_Entry_has
 rw [dT (by omega), cond_true, idx_ok hp]
 simp only [Option.bind_some, mapN_get p X.pe, mapN_get p Y.pe, w1 (show t ≤ 100000000000 by omega)]
 unfold ed1
 cases hy : look y p with
 | none =>
  simp only [Option.isSome_none, Bool.not_false, cond_true]
  rw [app_one (by omega)]
  rfl
 | some f =>
  have Sf := Y.sz (look_some hy).1
  simp only [Option.isSome_some, Bool.not_true, cond_false, Option.getD_some]
  rw [copied_eq Sf]
  simp only [Option.bind_some]
  cases hx : look x p with
  | none =>
   simp only [Option.isSome_none, Bool.not_false, cond_true]
   rw [app_one (by omega)]
   rfl
  | some e =>
   have Se := X.sz (look_some hx).1
   obtain ⟨r, h1, h2⟩ := fields_eq Se.attr Sf.attr
   simp only [Option.isSome_some, Bool.not_true, cond_false, Option.getD_some, dup_eq]
   rw [h1]
   simp only [Option.bind_some, bI, h2]
   by_cases ef : e = f
   ·rw [dT ef, if_pos ef]
    simp
   ·rw [dF ef, if_neg ef]
    simp only [Bool.not_false, cond_true]
    rw [app_one (by omega)]
    rfl
end
theorem diff_Diff_eq {l m : List TApiEntry} (V : VE l) (hl : l.length ≤ 60) (V2 : VE m) (hm : m.length ≤ 60) : ∃ ks, KS ks ∧ (∀ p, p ∈ ks ↔ (∃ e ∈ listN l ++ listN m, e.Path = p)) ∧ ks.length ≤ 1000 ∧ diff_Diff (canonN l) (canonN m) = some (edN (listN l) (listN m) ks, 0) := by
 have X := list_ge V hl
 have Y := list_ge V2 hm
 obtain ⟨ks, h1, h2, h3, h4⟩ := diff_keys_eq X.pe Y.pe
 refine ⟨ks, h2, h3, h4, ?_⟩
 unfold diff_Diff
 rw [diff_list_eq V hl, diff_list_eq V2 hm]
 simp only [Option.bind_some, Bool.not_true, cond_false, bI]
 rw [h1, Option.bind_some]
 have := loop_inv (body := fun s : List TApiEdit × Int => diff_Diff_l1 (mapN (listN l), true) (mapN (listN m), true) ks s.1 s.2) ks.length (fun t s => s = (edN (listN l) (listN m) (ks.take t), (t : Int))) (fun r => r = .inl (edN (listN l) (listN m) ks)) (by
  rintro t _ ht rfl
  have hp : ks[t]? = some ks[t] := List.getElem?_eq_getElem ht
  have he := edN_len (listN l) (listN m) (ks.take t)
  rw [List.length_take] at he
  refine Or.inl ⟨_, ?_, rfl⟩
  simp only
  rw [diff_step X Y h4 hp (by omega), edN_take hp]) (by
  rintro _ rfl
  unfold diff_Diff_l1
  simp only
  rw [dF (by omega)]
  exact ⟨_, rfl, by rw [List.take_length]⟩) (s := ([], 0)) rfl
 obtain ⟨r, g1, rfl⟩ := this
 rw [g1, bI]
end Go.Proofs.YtkleajhiihbefaaGreatDoor.F
namespace Go.Proofs.YtkleajhiihbefaaGreatDoor.F
open Go Go.RowKit Go.Proofs.YtkleajhiihbefaaGreatDoor.K Go.Proofs.YtkleajhiihbefaaGreatDoor.K.E
theorem list_mem {l : List TApiEntry} (V : VE l) {f : TApiEntry} (hf : f ∈ listN l) : f.Path = [] ∨ ∃ e ∈ l, e.Path = f.Path := by
 unfold listN at hf
 rcases List.mem_cons.1 hf with h | h
 ·left; rw [h]; rfl
 ·right
  obtain ⟨n, hn, rfl⟩ := List.mem_map.1 h
  obtain ⟨e, he, _, rfl⟩ := SN_ent V hn
  exact ⟨e, he, by rw [ent_path V]; rfl⟩
theorem look_list {l : List TApiEntry} (V : VE l) (hl : l.length ≤ 60) (h6 : ∀ e ∈ l, e.Kind ≠ 6) {e : TApiEntry} (he : e ∈ l) (hne : e.Path ≠ []) : ∃ f, look (listN l) e.Path = some f ∧ f.Mode = e.Mode := by
 have hn := nm_mem he hne
 have hr : rep (SN l) (inosN l) (nm e) = nm e := by
  have h1 := rep_mem (inos := inosN l) hn
  have h2 := (iO_of V h1 hn).1 (rep_iO hn)
  obtain ⟨x, hx, _, hxe⟩ := SN_ent V h1
  have hof : ∀ y : TApiEntry, y.Kind ≠ 6 → (nm y).f_of = y.Path := fun y hy => if_neg hy
  rw [hxe, hof x (h6 x hx), hof e (h6 e he)] at h2
  rw [hxe, V.inj hx he h2]
 obtain ⟨x, hx, hp, hk, hf, hb, _⟩ := ent_full V hn hr
 have hxe : x = e := V.inj hx he (by rw [hp]; exact if_neg (h6 e he))
 subst hxe
 have hm : entO (SN l) (inosN l) (canonN l) (nm x) ∈ listN l := List.mem_cons_of_mem _ (List.mem_map_of_mem hn)
 refine ⟨_, by rw [← (list_ve V hl).pe.look hm, ent_path V]; rfl, ?_⟩
 rw [hf]
 exact (congrArg TApiNode.Mode hb : (bas (nO (canonN l) (inosN l) (nm x))).Mode = (bas (nodeN x)).Mode)
theorem look_root {l : List TApiEntry} (V : VE l) : ∃ x, look (listN l) [] = some (fullEnt [] x) ∧ bas x = bas (nodeN (rootE l)) := by
 obtain ⟨x, h1, h2⟩ := root_bas V
 refine ⟨x, ?_, h2⟩
 unfold listN look
 rw [h1]
 rfl
def exE (p : List UInt8) (m : Int) : TApiEntry := { Path := p, Kind := 1, Mode := m, Uid := 0, Gid := 0, Time := 0, Size := 0, Data := [], Target := ([] : List UInt8), Dev := 0, Attrs := [] }
theorem exE_ok {l : List TApiEntry} {i : Nat} {c : UInt8} {m : Int} (hc : c = 97 ∨ c = 98) (hm : 0 ≤ m ∧ m ≤ 1) (hd : ∀ (k : Nat) x, k < i → l[k]? = some x → x.Path ≠ [c]) : EntOk l i (exE [c] m) where
 kind := ⟨by show (1 : Int) ≤ 1; omega, by show (1 : Int) ≤ 6; omega⟩
 path := Or.inr ⟨by simp [exE], by simp [exE], by show ∀ p ∈ spl [c], vN p = true; rcases hc with rfl | rfl <;> decide +kernel, by show (spl [c]).length ≤ 64; rcases hc with rfl | rfl <;> decide +kernel⟩
 dist := hd
 up := Or.inl (by show upP [c] = []; rcases hc with rfl | rfl <;> decide +kernel)
 link h := absurd (show (1 : Int) = 6 from h) (by decide)
 flds _ :=
  {m := ⟨hm.1, Int.le_trans hm.2 (by omega)⟩
   u := ⟨Int.le_refl _, by show (0 : Int) ≤ _; omega⟩
   g := ⟨Int.le_refl _, by show (0 : Int) ≤ _; omega⟩
   t := ⟨Int.le_refl _, by show (0 : Int) ≤ _; omega⟩
   sz := fun _ => ⟨Int.le_refl _, by show (0 : Int) ≤ _; omega⟩
   tg := fun h => absurd (show (1 : Int) = 3 from h) (by decide)
   dv := fun h => absurd (show (1 : Int) > 3 from h) (by decide)
   al := Nat.zero_le _
   av := fun a ha => by cases ha
   ad := fun i k a b _ h _ => by simp [exE] at h }
def exA : List TApiEntry := [exE [97] 0]
def exB : List TApiEntry := [exE [97] 1, exE [98] 0]
theorem exA_ve : VE exA where
 len := by simp [exA]
 data e he := by rw [List.mem_singleton.1 he]; simp [exE]
 ents i e h := by
  match i, h with
  | 0, h => cases h; exact exE_ok (Or.inl rfl) ⟨by omega, by omega⟩ fun k x hk => absurd hk (by omega)
  | i + 1, h => simp [exA] at h
theorem exB_ve : VE exB where
 len := by simp [exB]
 data e he := by
  simp only [exB, List.mem_cons, List.mem_nil_iff, or_false] at he
  rcases he with rfl | rfl <;> simp [exE]
 ents i e h := by
  match i, h with
  | 0, h => cases h; exact exE_ok (Or.inl rfl) ⟨by omega, by omega⟩ fun k x hk => absurd hk (by omega)
  | 1, h =>
   cases h
   refine exE_ok (Or.inr rfl) ⟨by omega, by omega⟩ fun k x hk hx => ?_
   obtain rfl : k = 0 := by omega
   cases hx
   decide +kernel
  | i + 2, h => simp [exB] at h
theorem live29 : law29_live = some true := by
 have h6A : ∀ e ∈ exA, e.Kind ≠ 6 := fun e he => by
  rw [List.mem_singleton.1 he]
  decide
 have h6B : ∀ e ∈ exB, e.Kind ≠ 6 := fun e he => by
  simp only [exB, List.mem_cons, List.mem_nil_iff, or_false] at he
  rcases he with rfl | rfl <;> decide
 obtain ⟨ks, k1, k2, k3, k4⟩ := diff_Diff_eq exA_ve (by decide) exB_ve (by decide)
 obtain ⟨xa, ra, ba⟩ := look_root exA_ve
 obtain ⟨xb, rb, bb⟩ := look_root exB_ve
 obtain ⟨fa, la, ma⟩ := look_list exA_ve (by decide) h6A (e := exE [97] 0) (by simp [exA]) (by simp [exE])
 obtain ⟨fb, lb, mb⟩ := look_list exB_ve (by decide) h6B (e := exE [97] 1) (by simp [exB]) (by simp [exE])
 obtain ⟨fc, lc, mc⟩ := look_list exB_ve (by decide) h6B (e := exE [98] 0) (by simp [exB]) (by simp [exE])
 have na : look (listN exA) [98] = none := look_none.2 fun f hf => by
  rcases list_mem exA_ve hf with h | ⟨e, he, h⟩
  ·rw [h]; decide +kernel
  ·rw [← h, List.mem_singleton.1 he]; decide +kernel
 have hks : ks = [[], [97], [98]] := by
  refine k1.uniq ?_ fun p => (k2 p).trans ?_
  ·unfold KS
   rw [List.pairwise_cons, List.pairwise_cons, List.pairwise_cons]
   simp only [List.mem_cons, List.mem_nil_iff, or_false]
   refine ⟨?_, ?_, ?_, List.Pairwise.nil⟩
   ·rintro q (rfl | rfl) <;> decide +kernel
   ·rintro q rfl; decide +kernel
   ·rintro q h; exact absurd h (by simp)
  ·simp only [List.mem_cons, List.mem_nil_iff, or_false]
   constructor
   ·rintro ⟨f, hf, rfl⟩
    rcases List.mem_append.1 hf with h | h
    ·rcases list_mem exA_ve h with g | ⟨e, he, g⟩
     ·exact Or.inl g
     ·rw [List.mem_singleton.1 he] at g; exact Or.inr (Or.inl g.symm)
    ·rcases list_mem exB_ve h with g | ⟨e, he, g⟩
     ·exact Or.inl g
     ·simp only [exB, List.mem_cons, List.mem_nil_iff, or_false] at he
      rcases he with rfl | rfl
      ·exact Or.inr (Or.inl g.symm)
      ·exact Or.inr (Or.inr g.symm)
   ·rintro (rfl | rfl | rfl)
    ·exact ⟨_, List.mem_append_left _ (look_some ra).1, rfl⟩
    ·exact ⟨_, List.mem_append_left _ (look_some la).1, (look_some la).2⟩
    ·exact ⟨_, List.mem_append_right _ (look_some lc).1, (look_some lc).2⟩
 have eroot : fullEnt [] xa = fullEnt [] xb := by
  have e : bas xa = bas xb := by
   rw [ba, bb, show rootE exA = rootE exB from (show rootE exA = dE from rfl).trans (show dE = rootE exB from rfl)]
  have g : ∀ x : TApiNode, fullEnt [] x = fullEnt [] (bas x) := fun x => rfl
  rw [g xa, g xb, e]
 have la' : look (listN exA) [97] = some fa := la
 have lb' : look (listN exB) [97] = some fb := lb
 have lc' : look (listN exB) [98] = some fc := lc
 have hne : fa ≠ fb := fun e => by
  rw [e, mb] at ma
  exact absurd (show (1 : Int) = 0 from ma) (by decide)
 have hed : edN (listN exA) (listN exB) ks = [{ Do := 3, Entry := fb }, { Do := 2, Entry := fc }] := by
  rw [hks]
  unfold edN ed1
  simp only [List.flatMap_cons, List.flatMap_nil, rb, ra, la', lb', lc', na, eroot, if_true, if_neg hne]
  rfl
 have pb : (fb.Path == ([97] : List UInt8)) = true := by rw [(look_some lb').2]; rfl
 have pc : (fc.Path == ([98] : List UInt8)) = true := by rw [(look_some lc').2]; rfl
 rw [hed] at k4
 have ca : ref11_Canon ([({ Path := ([97] : List UInt8), Kind := 1, Mode := 0, Uid := 0, Gid := 0, Time := 0, Size := 0, Data := [], Target := ([] : List UInt8), Dev := 0, Attrs := [] } : TApiEntry)] : List TApiEntry) = some (canonN exA) := ref_Canon_eq exA_ve
 have cb : ref11_Canon ([({ Path := ([97] : List UInt8), Kind := 1, Mode := 1, Uid := 0, Gid := 0, Time := 0, Size := 0, Data := [], Target := ([] : List UInt8), Dev := 0, Attrs := [] } : TApiEntry), ({ Path := ([98] : List UInt8), Kind := 1, Mode := 0, Uid := 0, Gid := 0, Time := 0, Size := 0, Data := [], Target := ([] : List UInt8), Dev := 0, Attrs := [] } : TApiEntry)] : List TApiEntry) = some (canonN exB) := ref_Canon_eq exB_ve
 unfold law29_live law29_num
 rw [ca, cb]
 simp only [Option.bind_some]
 rw [k4]
 simp only [Option.bind_some]
 rw [show ((0 : Int) == 0) = true from rfl, cond_true]
 have g0 : idx [({ Do := 3, Entry := fb } : TApiEdit), { Do := 2, Entry := fc }] 0 = some { Do := 3, Entry := fb } := rfl
 have g1 : idx [({ Do := 3, Entry := fb } : TApiEdit), { Do := 2, Entry := fc }] 1 = some { Do := 2, Entry := fc } := rfl
 simp only [g0, g1, Option.bind_some, pb, pc, cond_true]
 rfl
end Go.Proofs.YtkleajhiihbefaaGreatDoor.F
namespace Go.Proofs.YtkleajhiihbefaaGreatDoor.F
open Go Go.RowKit Go.Proofs.YtkleajhiihbefaaGreatDoor.K Go.Proofs.YtkleajhiihbefaaGreatDoor.K.E
theorem rsame_kids (a : List TApiKid) (h : a.length ≤ 1000) : ref11_SameKids a a = some true := by
 unfold ref11_SameKids
 rw [bne_self', cond_false]
 have := loop_first a (fun s => ref11_SameKids_l1 a a s) (fun t => (t : Int)) (fun _ _ => none) (.inl ()) (fun t x hx => by
  have := lt_of_get hx
  unfold ref11_SameKids_l1
  simp only [idx_ok hx, Option.bind_some, bne_self', cond_false]
  rw [dT (by omega), cond_true, w1 (by omega)]) (by unfold ref11_SameKids_l1; rw [dF (by omega)]; rfl)
 rw [show ((0 : Int)) = ((0 : Nat) : Int) from rfl, this, firstQ_none.2 fun _ _ _ => rfl]
 rfl
theorem rsame_nodes (a : List TApiNode) (h : a.length ≤ 1000) (hn : ∀ x ∈ a, x.Kids.length ≤ 100 ∧ x.Attrs.length ≤ 64) : ref11_Same a a = some true := by
 unfold ref11_Same
 rw [bne_self', cond_false]
 have := loop_first a (fun s => ref11_Same_l1 a a s) (fun t => (t : Int)) (fun _ _ => none) (.inl ()) (fun t x hx => by
  have := lt_of_get hx
  obtain ⟨h1, h2⟩ := hn x (mem_of_get hx)
  unfold ref11_Same_l1
  rw [dT (by omega), cond_true, idx_ok hx]
  simp only [Option.bind_some, dup_eq, bne_self', cond_false, bI, rattrs_same (show x.Attrs.length ≤ 1000 by omega) (show x.Attrs.length ≤ 1000 by omega), decide_true, Bool.not_true, rsame_kids _ (show x.Kids.length ≤ 1000 by omega)]
  rw [w1 (by omega)]) (by unfold ref11_Same_l1; rw [dF (by omega)]; rfl)
 rw [show ((0 : Int)) = ((0 : Nat) : Int) from rfl, this, firstQ_none.2 fun _ _ _ => rfl]
 rfl
theorem canon_same {l : List TApiEntry} (V : VE l) : ref11_Same (canonN l) (canonN l) = some true := by
 obtain ⟨g1, g2, g3⟩ := tree_Canon_eq V
 exact rsame_nodes _ (by omega) g3
abbrev LMap := List (List UInt8 × TApiEntry)
theorem mget_cons {κ β : Type} [BEq κ] (x : κ × β) (l : List (κ × β)) (k : κ) : mget (x :: l) k = if k == x.1 then some x.2 else mget l k := by
 unfold mget
 rw [List.find?_cons]
 cases k == x.1 <;> rfl
theorem mget_mdel (k k' : List UInt8) : ∀ l : LMap, (l.map (·.1)).Nodup → mget (mdel l k) k' = if k' = k then none else mget l k'
 | [], _ => by unfold mdel; split <;> rfl
 | x :: l, h => by
  rw [List.map_cons, List.nodup_cons] at h
  have ih := mget_mdel k k' l h.2
  unfold mdel
  by_cases hk : k = x.1
  ·rw [show (k == x.1) = true by simpa using hk]
   simp only [if_true]
   by_cases e : k' = k
   ·rw [if_pos e]
    cases hg : mget l k' with
    | none => rfl
    | some v => exact absurd ((mget_key l k').2 (by rw [hg]; rfl)) (by rw [e, hk]; exact h.1)
   ·rw [if_neg e, mget_cons, show (k' == x.1) = false by rw [← hk]; simpa using e]
    rfl
  ·rw [show (k == x.1) = false by simpa using hk]
   simp only [Bool.false_eq_true, if_false]
   rw [mget_cons, mget_cons, ih]
   by_cases e : k' = x.1
   ·have hne : k' ≠ k := fun g => hk (g.symm.trans e)
    rw [show (k' == x.1) = true by simpa using e, if_pos rfl, if_pos rfl, if_neg hne]
   ·rw [show (k' == x.1) = false by simpa using e]
    rfl
theorem mdel_sub (k : List UInt8) : ∀ l : LMap, (mdel l k).Sublist l
 | [] => by unfold mdel; exact List.Sublist.refl _
 | x :: l => by
  unfold mdel
  split
  ·exact List.sublist_cons_self _ _
  ·exact (mdel_sub k l).cons_cons _
theorem mput_nd (k : List UInt8) (v : TApiEntry) (l : LMap) (h : (l.map (·.1)).Nodup) : ((mput l k v).map (·.1)).Nodup ∧ (mput l k v).length ≤ l.length + 1 := by
 have e := mput_keys k v l
 have el := congrArg List.length e
 rw [List.length_map] at el
 constructor
 ·rw [e]
  split
  ·exact h
  ·rename_i hn
   rw [List.nodup_append]
   exact ⟨h, by simp, fun a ha b hb => by rw [List.mem_singleton.1 hb]; intro e; exact hn (e ▸ ha)⟩
 ·rw [el]
  split
  ·rw [List.length_map]; omega
  ·rw [List.length_append, List.length_map]; simp
theorem keys_spec {ls : List LMap} (hn : ∀ m ∈ ls, (m.map (·.1)).Nodup) {n : Nat} (hl : ∀ m ∈ ls, m.length ≤ n) (h4 : ls.length * n ≤ 100000) (hp : ∀ m ∈ ls, ∀ p, (mget m p).isSome = true → p.length ≤ 1000000) : ∃ r, diff_keys ls = some r ∧ KS r ∧ (∀ p, p ∈ r ↔ (∃ m ∈ ls, (mget m p).isSome = true)) ∧ r.length ≤ ls.length * n := by
 have hlen := len_keysU (ls := ls) (pre := []) hl
 have hnd := nodup_keysU (ls := ls) (pre := []) hn
 have hmem : ∀ p, p ∈ keysU [] ls ↔ (∃ m ∈ ls, (mget m p).isSome = true) := fun p => by
  rw [mem_keysU]
  exact ⟨fun h => h.1, fun h => ⟨h, by simp⟩⟩
 obtain ⟨r, h1, h2, h3⟩ := sort_String_eq (l := keysU [] ls) (by omega) (fun p hq => by
  obtain ⟨m, hm, h⟩ := (hmem p).1 hq
  exact hp m hm p h) hnd
 refine ⟨r, ?_, h2, fun p => (h3 p).trans (hmem p), ?_⟩
 ·unfold diff_keys
  rw [dT (by omega), show chk true = some () from rfl, Option.bind_some, h1]
 ·have hr : r.Nodup := h2.imp fun h e => by rw [e, kL_irr] at h; cases h
  rw [(perm_of_nodup hr hnd h3).length_eq]
  exact hlen
theorem KS_root {q : List (List UInt8)} (h : KS q) (h0 : ∀ p ∈ q, p ≠ []) : KS ([] :: q) := by
 unfold KS
 rw [List.pairwise_cons]
 refine ⟨fun p hp => ?_, h⟩
 unfold kL prt
 rw [if_pos rfl, if_neg (h0 p hp)]
 unfold pL
 have := spl_ne p
 cases hs : spl p with
 | nil => exact absurd hs this
 | cons a b => rfl
theorem SN_ks {l : List TApiEntry} (V : PE l) : KS ((SN l).map (·.f_path)) ∧ ∀ p ∈ (SN l).map (·.f_path), p ≠ [] := by
 have hnp : ∀ n ∈ SN l, n.f_path ≠ [] ∧ n.f_parts = prt n.f_path := by
  intro n hn
  obtain ⟨e, he, hne, rfl⟩ := namesU_mem (SN_mem.1 hn)
  refine ⟨hne, ?_⟩
  unfold prt
  rw [show (nm e).f_path = e.Path from rfl, if_neg hne]
  rfl
 constructor
 ·unfold KS
  rw [List.pairwise_map]
  refine (SN_srtP V).imp_of_mem fun {a b} ha hb h => ?_
  unfold kL
  rw [← (hnp a ha).2, ← (hnp b hb).2]
  exact h
 ·intro p hp
  obtain ⟨n, hn, rfl⟩ := List.mem_map.1 hp
  exact (hnp n hn).1
theorem list_ks {l : List TApiEntry} (V : VE l) : KS ((listN l).map (·.Path)) := by
 obtain ⟨h1, h2⟩ := SN_ks V.pe
 have : (listN l).map (·.Path) = [] :: (SN l).map (·.f_path) := by
  unfold listN
  rw [List.map_cons, List.map_map]
  congr 1
  exact List.map_congr_left fun n _ => ent_path V
 rw [this]
 exact KS_root h1 h2
theorem PE.plen {l : List TApiEntry} (V : PE l) {e : TApiEntry} (he : e ∈ l) : e.Path.length ≤ 4096 := by
 by_cases h : e.Path = []
 ·rw [h]; simp
 ·exact (V.pth e he h).1
theorem look_iff {l : List TApiEntry} {p : List UInt8} : (look l p).isSome = true ↔ (∃ e ∈ l, e.Path = p) := by
 cases h : look l p with
 | none => exact ⟨fun h => (by cases h), fun ⟨e, he, g⟩ => absurd g (look_none.1 h e he)⟩
 | some e => exact ⟨fun _ => ⟨e, look_some h⟩, fun _ => rfl⟩
theorem entries_eq {M : LMap} {z : List TApiEntry} (Z : PE z) (hs : KS (z.map (·.Path))) (hn : (M.map (·.1)).Nodup) (hl : M.length ≤ 10000) (hg : ∀ p, mget M p = look z p) : diff_entries M = some z := by
 have hzl := Z.len
 obtain ⟨r, h1, h2, h3, h4⟩ := keys_spec (ls := [M]) (n := 10000) (fun m hm => by rw [List.mem_singleton.1 hm]; exact hn) (fun m hm => by rw [List.mem_singleton.1 hm]; exact hl) (by simp) (fun m hm p hp => by
  rw [List.mem_singleton.1 hm, hg p] at hp
  obtain ⟨e, he, rfl⟩ := look_iff.1 hp
  have := Z.plen he
  omega)
 have hr : r = z.map (·.Path) := h2.uniq hs fun p => by
  rw [h3, List.mem_map]
  constructor
  ·rintro ⟨m, hm, h⟩
   rw [List.mem_singleton.1 hm, hg p] at h
   exact look_iff.1 h
  ·intro h
   exact ⟨M, by simp, by rw [hg p]; exact look_iff.2 h⟩
 subst hr
 unfold diff_entries
 rw [h1, Option.bind_some]
 have := loop_inv (body := fun s : List TApiEntry × Int => diff_entries_l1 M (z.map (·.Path)) s.1 s.2) z.length (fun t s => s = (z.take t, (t : Int))) (fun r => r = .inl z) (by
  rintro t _ ht rfl
  have hx : z[t]? = some z[t] := List.getElem?_eq_getElem ht
  generalize z[t] = x at hx
  have hx2 : (z.map (·.Path))[t]? = some x.Path := by rw [List.getElem?_map, hx]; rfl
  refine Or.inl ⟨_, ?_, rfl⟩
  unfold diff_entries_l1
  simp only
  rw [dT (by rw [List.length_map]; omega), cond_true, idx_ok hx2]
  simp only [Option.bind_some]
  rw [hg, Z.look (mem_of_get hx), Option.getD_some, app_one (by rw [List.length_take]; omega), Option.bind_some, w1 (by omega), List.take_add_one, hx, Option.toList_some]) (by
  rintro _ rfl
  unfold diff_entries_l1
  simp only
  rw [dF (by rw [List.length_map]; omega)]
  exact ⟨_, rfl, by rw [List.take_length]⟩) (s := ([], 0)) rfl
 obtain ⟨r, g1, rfl⟩ := this
 rw [g1, bI]
theorem list2_eq {l : List TApiEntry} (V : VE l) (hl : l.length ≤ 60) : diff_list_2 (canonN l) = some (mapN (listN l), true) := diff_list_eq V hl
theorem ed_path {x y : List TApiEntry} {p : List UInt8} {d : TApiEdit} (h : d ∈ ed1 x y p) : d.Entry.Path = p := by
 unfold ed1 at h
 cases hy : look y p with
 | none => rw [hy] at h; rw [List.mem_singleton.1 h]; rfl
 | some f =>
  rw [hy] at h
  have hf := (look_some hy).2
  cases hx : look x p with
  | none => rw [hx] at h; rw [List.mem_singleton.1 h]; exact hf
  | some e =>
   rw [hx] at h
   simp only at h
   split at h
   ·cases h
   ·rw [List.mem_singleton.1 h]; exact hf
theorem ed_nodup {x y : List TApiEntry} : ∀ {ks : List (List UInt8)}, ks.Nodup → (edN x y ks).Pairwise (fun a b => a.Entry.Path ≠ b.Entry.Path)
 | [], _ => List.Pairwise.nil
 | k :: ks, h => by
  rw [List.nodup_cons] at h
  unfold edN
  rw [List.flatMap_cons, List.pairwise_append]
  refine ⟨?_, ed_nodup h.2, fun a ha b hb => ?_⟩
  ·have := ed1_len x y k
   match ed1 x y k, this with
   | [], _ => exact List.Pairwise.nil
   | [a], _ => exact List.pairwise_singleton _ _
  ·obtain ⟨q, hq, hb⟩ := List.mem_flatMap.1 hb
   rw [ed_path ha, ed_path hb]
   intro e
   exact h.1 (e ▸ hq)
theorem edit_ok {x y : List TApiEntry} (Y : GE y) {M : LMap} (hn : (M.map (·.1)).Nodup) {p : List UInt8} {d : TApiEdit} (hd : d ∈ ed1 x y p) (hp : look y p = none → (look x p).isSome = true) (hm : mget M p = look x p) : ∃ M' : LMap, diff_edit M d.Do d.Entry.Path d.Entry.Kind d.Entry.Mode d.Entry.Uid d.Entry.Gid d.Entry.Time d.Entry.Size d.Entry.Data d.Entry.Target d.Entry.Dev d.Entry.Attrs = some (0, M') ∧ (M'.map (·.1)).Nodup ∧ M'.length ≤ M.length + 1 ∧ ∀ q, mget M' q = if q = p then look y p else mget M q := by
 have hpath := ed_path hd
 unfold ed1 at hd
 unfold diff_edit diff_listing_portmanteau_api_Entry_has_2
 simp only [Option.bind_some]
 rw [hpath, hm]
 cases hy : look y p with
 | none =>
  rw [hy] at hd
  have := hp hy
  rw [List.mem_singleton.1 hd, this]
  refine ⟨mdel M p, rfl, ?_, ?_, fun q => mget_mdel p q M hn⟩
  ·exact hn.sublist ((mdel_sub p M).map _)
  ·exact Nat.le_succ_of_le (mdel_sub p M).length_le
 | some f =>
  have Sf := Y.sz (look_some hy).1
  have hf := (look_some hy).2
  rw [hy] at hd
  have hput : ∀ q, mget (mput M p f) q = if q = p then some f else mget M q := fun q => mget_put p q f M
  cases hx : look x p with
  | none =>
   rw [hx] at hd
   rw [List.mem_singleton.1 hd]
   refine ⟨mput M p f, ?_, (mput_nd p f M hn).1, (mput_nd p f M hn).2, hput⟩
   rw [← hf]
   simp only [Option.isSome_none]
   rw [copied_eq Sf]
   rfl
  | some e =>
   rw [hx] at hd
   simp only at hd
   split at hd
   ·cases hd
   ·rw [List.mem_singleton.1 hd]
    refine ⟨mput M p f, ?_, (mput_nd p f M hn).1, (mput_nd p f M hn).2, hput⟩
    rw [← hf]
    simp only [Option.isSome_some]
    rw [copied_eq Sf]
    rfl
theorem Apply_eq {a b : List TApiEntry} (V : VE a) (ha : a.length ≤ 60) (V2 : VE b) (hb : b.length ≤ 60) {ks : List (List UInt8)} (hk : KS ks) (hkm : ∀ p, p ∈ ks ↔ (∃ e ∈ listN a ++ listN b, e.Path = p)) (hkl : ks.length ≤ 1000) : diff_Apply (canonN a) (edN (listN a) (listN b) ks) = some (canonN b, 0, ((edN (listN a) (listN b) ks).length : Int)) := by
 have Y := list_ge V2 hb
 have X := list_ge V ha
 have hnd : ks.Nodup := hk.imp fun h e => by rw [e, kL_irr] at h; cases h
 have hpw := ed_nodup (x := listN a) (y := listN b) hnd
 have hel := edN_len (listN a) (listN b) ks
 have hin : ∀ d ∈ edN (listN a) (listN b) ks, ∃ p ∈ ks, d ∈ ed1 (listN a) (listN b) p := fun d hd => List.mem_flatMap.1 hd
 have hall : ∀ p ∈ ks, ed1 (listN a) (listN b) p = [] ∨ ∃ d ∈ edN (listN a) (listN b) ks, d.Entry.Path = p := by
  intro p hp
  cases h : ed1 (listN a) (listN b) p with
  | nil => exact Or.inl rfl
  | cons d r => exact Or.inr ⟨d, List.mem_flatMap.2 ⟨p, hp, by rw [h]; exact List.mem_cons_self ..⟩, ed_path (by rw [h]; exact List.mem_cons_self ..)⟩
 generalize hE : edN (listN a) (listN b) ks = E at hpw hel hin hall
 have hmn := mapN_keys (listN a)
 have hxl := X.pe.len
 have := loop_inv (body := fun s : Int × LMap => diff_Apply_l1 E s.1 s.2) E.length (fun t s => s.1 = (t : Int) ∧ (s.2.map (·.1)).Nodup ∧ s.2.length ≤ 300 + t ∧ (∀ p, (∃ d ∈ E.take t, d.Entry.Path = p) → mget s.2 p = look (listN b) p) ∧ (∀ p, (∀ d ∈ E.take t, d.Entry.Path ≠ p) → mget s.2 p = look (listN a) p)) (fun r => ∃ M : LMap, r = .inl M ∧ (M.map (·.1)).Nodup ∧ M.length ≤ 1300 ∧ ∀ p, mget M p = look (listN b) p) (by
  rintro t ⟨i, M⟩ ht ⟨e1, e2, e3, e4, e5⟩
  dsimp only at e1 e2 e3 e4 e5
  subst e1
  have hx : E[t]? = some E[t] := List.getElem?_eq_getElem ht
  generalize E[t] = d at hx
  obtain ⟨p, hp, hd⟩ := hin d (mem_of_get hx)
  have hdp := ed_path hd
  have hnew : ∀ c ∈ E.take t, c.Entry.Path ≠ p := by
   intro c hc
   obtain ⟨j, hj⟩ := get_of_mem hc
   have hjt := lt_of_get hj
   rw [List.length_take] at hjt
   rw [List.getElem?_take, if_pos (by omega)] at hj
   rw [List.pairwise_iff_getElem] at hpw
   rw [List.getElem?_eq_getElem (by omega)] at hj hx
   have := hpw j t (by omega) ht (by omega)
   cases hj
   cases hx
   rw [hdp] at this
   exact this
  obtain ⟨M', g1, g2, g3, g4⟩ := edit_ok Y e2 hd (fun hy => by
   obtain ⟨e, he, hpe⟩ := (hkm p).1 hp
   rcases List.mem_append.1 he with h | h
   ·exact look_iff.2 ⟨e, h, hpe⟩
   ·exact absurd hpe (look_none.1 hy e h)) (e5 p hnew)
  refine Or.inl ⟨(((t + 1 : Nat) : Int), M'), ?_, rfl, g2, by show M'.length ≤ _; omega, fun q hq => ?_, fun q hq => ?_⟩
  ·unfold diff_Apply_l1
   simp only
   rw [dT (by omega), cond_true, idx_ok hx, Option.bind_some, g1, Option.bind_some, w1 (by omega)]
   rfl
  ·show mget M' q = _
   rw [g4]
   by_cases e : q = p
   ·rw [if_pos e, e]
   ·rw [if_neg e]
    obtain ⟨c, hc, h⟩ := hq
    rw [List.take_add_one, hx] at hc
    rcases List.mem_append.1 hc with h1 | h1
    ·exact e4 q ⟨c, h1, h⟩
    ·have : c = d := by simpa using h1
     rw [this, hdp] at h
     exact absurd h.symm e
  ·show mget M' q = _
   have hq1 : q ≠ p := fun e => hq d (by rw [List.take_add_one, hx]; simp) (by rw [hdp, e])
   rw [g4, if_neg hq1]
   exact e5 q fun c hc => hq c (by rw [List.take_add_one]; exact List.mem_append_left _ hc)) (by
  rintro ⟨i, M⟩ ⟨e1, e2, e3, e4, e5⟩
  dsimp only at e1 e2 e3 e4 e5
  subst e1
  refine ⟨_, by unfold diff_Apply_l1; simp only; rw [dF (by omega)]; rfl, M, rfl, e2, by omega, fun p => ?_⟩
  rw [List.take_length] at e4 e5
  by_cases h : ∃ d ∈ E, d.Entry.Path = p
  ·exact e4 p h
  ·have h' : ∀ d ∈ E, d.Entry.Path ≠ p := fun d hd e => h ⟨d, hd, e⟩
   rw [e5 p h']
   by_cases hp : p ∈ ks
   ·rcases hall p hp with g | g
    ·unfold ed1 at g
     cases hy : look (listN b) p with
     | none => rw [hy] at g; cases g
     | some f =>
      rw [hy] at g
      cases hx : look (listN a) p with
      | none => rw [hx] at g; cases g
      | some e =>
       rw [hx] at g
       simp only at g
       split at g
       ·rename_i ef; rw [ef]
       ·cases g
    ·exact absurd g h
   ·have hno : ∀ e ∈ listN a ++ listN b, e.Path ≠ p := fun e he g => hp ((hkm p).2 ⟨e, he, g⟩)
    rw [look_none.2 fun e he => hno e (List.mem_append_left _ he), look_none.2 fun e he => hno e (List.mem_append_right _ he)]) (s := (0, mapN (listN a))) ⟨rfl, hmn.1, by show (mapN (listN a)).length ≤ _; omega, fun p ⟨d, hd, _⟩ => by simp at hd, fun p _ => mapN_get p X.pe⟩
 obtain ⟨r, h1, M, rfl, h2, h3, h4⟩ := this
 obtain ⟨c1, c2, c3⟩ := tree_Canon_eq (list_ve V2 hb)
 unfold diff_Apply
 rw [list2_eq V ha, Option.bind_some]
 simp only [Bool.not_true, cond_false]
 rw [h1, bI, entries_eq Y.pe (list_ks V2) h2 (by omega) h4, Option.bind_some, c1, Option.bind_some, canon_list V2 hb]
 rfl
theorem edN_self {x : List TApiEntry} {ks : List (List UInt8)} (h : ∀ p ∈ ks, ∃ e ∈ x, e.Path = p) : edN x x ks = [] := by
 unfold edN
 rw [List.flatMap_eq_nil_iff]
 intro p hp
 have := look_iff.2 (h p hp)
 unfold ed1
 cases hx : look x p with
 | none => rw [hx] at this; cases this
 | some e => simp
end Go.Proofs.YtkleajhiihbefaaGreatDoor.F
namespace Go.Proofs.YtkleajhiihbefaaGreatDoor.F
open Go Go.RowKit Go.Proofs.YtkleajhiihbefaaGreatDoor.K Go.Proofs.YtkleajhiihbefaaGreatDoor.K.E
theorem DiffBack_pure (a : List TApiEntry) (_ha : (rSl rApiEntry).wf a) (b : List TApiEntry) (_hb : (rSl rApiEntry).wf b) : law29_DiffBack a b = some true := by
 unfold law29_DiffBack
 rcases made29 a with h1 | ⟨V, hl, h1⟩
 ·rcases made29 b with h2 | ⟨V2, hm, h2⟩ <;>
  ·rw [h1, h2]
   simp only [Option.bind_some, Bool.not_false, cond_true, bI, live29]
 ·rcases made29 b with h2 | ⟨V2, hm, h2⟩
  ·rw [h1, h2]
   simp only [Option.bind_some, Bool.not_false, Bool.not_true, cond_false, cond_true, bI, live29]
  ·have X := list_ge V (by omega)
   have Y := list_ge V2 (by omega)
   obtain ⟨k1, p1, p2, p3, p4⟩ := diff_Diff_eq V (by omega) V2 (by omega)
   obtain ⟨k2, q1, q2, q3, q4⟩ := diff_Diff_eq V2 (by omega) V (by omega)
   obtain ⟨k3, s1, s2, s3, s4⟩ := diff_Diff_eq V (by omega) V (by omega)
   have e3 : edN (listN a) (listN a) k3 = [] := edN_self fun p hp => by
    obtain ⟨e, he, h⟩ := (s2 p).1 hp
    rcases List.mem_append.1 he with g | g <;> exact ⟨e, g, h⟩
   have A1 := Apply_eq V (by omega) V2 (by omega) p1 p2 p3
   have A2 := Apply_eq V2 (by omega) V (by omega) q1 q2 q3
   have A3 := Apply_eq V (by omega) V (by omega) s1 s2 s3
   rw [e3] at s4 A3
   have I1 : diff_Invert (canonN a) (edN (listN a) (listN b) k1) = some (edN (listN b) (listN a) k2, 0) := by
    unfold diff_Invert
    rw [A1, Option.bind_some]
    simp only
    rw [show ((0 : Int) != 0) = false from rfl, cond_false, q4]
    rfl
   rw [h1, h2]
   simp only [Option.bind_some, Bool.not_true, cond_false, bI]
   rw [p4]
   simp only [Option.bind_some]
   rw [A1]
   simp only [Option.bind_some]
   rw [I1]
   simp only [Option.bind_some]
   rw [A2]
   simp only [Option.bind_some]
   rw [s4]
   simp only [Option.bind_some]
   rw [A3]
   simp only [Option.bind_some, law29_num]
   rw [show (IntKind.i64.wrap (IntKind.i64.wrap (IntKind.i64.wrap (IntKind.i64.wrap (IntKind.i64.wrap ((0 : Int) + 0) + 0) + 0) + 0) + 0) == 0) = true from rfl, cond_true]
   simp only [beq_self_eq_true, cond_true, canon_same V, canon_same V2, Option.bind_some, live29]
   rfl
end Go.Proofs.YtkleajhiihbefaaGreatDoor.F
