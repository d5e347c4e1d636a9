/- Texts in one: DBKS DBC1 DBKF DBC2 E18 E21. -/
import Derived.Test.YtkleajhiihbefaaGreatDoorBK7
import Derived.Test.YtkleajhiihbefaaGreatDoorBK8
import Derived.Test.YtkleajhiihbefaaGreatDoorBK1
import Derived.Test.YtkleajhiihbefaaGreatDoorProg
import Derived.Test.YtkleajhiihbefaaGreatDoorBK6
set_option linter.unusedVariables false
set_option linter.unusedSimpArgs false
set_option linter.unusedSectionVars false
namespace Go.Proofs.YtkleajhiihbefaaGreatDoor.F
open Go Go.RowKit Go.Proofs.YtkleajhiihbefaaGreatDoor Go.Proofs.YtkleajhiihbefaaGreatDoor.K
set_option maxRecDepth 100000
theorem cf_loop (ls : List (List (List UInt8 × TApiEntry))) (k : List UInt8) (hl : ls.length ≤ 9223372036854775807) : ∀ (n i : Nat), i + n = ls.length →
  ∃ r, loopO (fun s => slices_IndexFunc_diff_listing_Entry_diff_listing_Entry_l1 ls k s) ((i : Nat) : Int) = some r ∧ ((r = .inl () ∧ ∀ o ∈ ls.drop i, (mget o k).isSome = false) ∨ ∃ t : Nat, r = .inr (t : Int) ∧ ∃ o ∈ ls.drop i, (mget o k).isSome = true)
 | 0, i, h => by
  refine ⟨.inl (), loop_end ?_, .inl ⟨rfl, fun o ho => ?_⟩⟩
  ·unfold slices_IndexFunc_diff_listing_Entry_diff_listing_Entry_l1
   rw [show decide ((i : Int) < (ls.length : Int)) = false from decide_eq_false (by omega)]
   rfl
  ·rw [List.drop_of_length_le (by omega)] at ho
   cases ho
 | n + 1, i, h => by
  have hx : ls[i]? = some ls[i] := List.getElem?_eq_getElem (by omega)
  have hd : ls.drop i = ls[i] :: ls.drop (i + 1) := List.drop_eq_getElem_cons (by omega)
  generalize ls[i] = o at hx hd
  have hb : slices_IndexFunc_diff_listing_Entry_diff_listing_Entry_l1 ls k (i : Int) = some (cond ((mget o k).isSome) (.inr (.inr (i : Int))) (.inl ((i + 1 : Nat) : Int))) := by
   unfold slices_IndexFunc_diff_listing_Entry_diff_listing_Entry_l1
   rw [show decide ((i : Int) < (ls.length : Int)) = true from decide_eq_true (by omega), idx_ok hx]
   simp only [cond_true, Option.bind_some, diff_keys_portmanteau_api_Entry_1, diff_listing_portmanteau_api_Entry_has]
   rw [wI ⟨by omega, by omega⟩]
   cases (mget o k).isSome <;> rfl
  cases hm : (mget o k).isSome with
  | true =>
   rw [hm] at hb
   exact ⟨_, loop_end hb, .inr ⟨i, rfl, o, by rw [hd]; exact List.mem_cons_self .., hm⟩⟩
  | false =>
   rw [hm] at hb
   obtain ⟨r, h1, h2⟩ := cf_loop ls k hl n (i + 1) (by omega)
   refine ⟨r, by rw [loop_next hb]; exact h1, ?_⟩
   rw [hd]
   rcases h2 with ⟨e1, e2⟩ | ⟨t, e1, o', e2, e3⟩
   ·exact .inl ⟨e1, fun x hx => (List.mem_cons.1 hx).elim (fun e => by rw [e]; exact hm) (e2 x)⟩
   ·exact .inr ⟨t, e1, o', List.mem_cons_of_mem _ e2, e3⟩
theorem cf_eq (ls : List (List (List UInt8 × TApiEntry))) (k : List UInt8) (hl : ls.length ≤ 9223372036854775807) : slices_ContainsFunc_diff_listing_Entry_diff_listing_Entry ls k = some (ls.any fun o => (mget o k).isSome) := by
 obtain ⟨r, h1, h2⟩ := cf_loop ls k hl ls.length 0 (by omega)
 unfold slices_ContainsFunc_diff_listing_Entry_diff_listing_Entry slices_IndexFunc_diff_listing_Entry_diff_listing_Entry
 rw [show ((0 : Int)) = ((0 : Nat) : Int) from rfl, h1]
 rw [List.drop_zero] at h2
 rcases h2 with ⟨rfl, h2⟩ | ⟨t, rfl, o, ho, h2⟩
 ·rw [show (ls.any fun o => (mget o k).isSome) = false from List.any_eq_false.2 fun o ho => by rw [h2 o ho]; decide]
  rfl
 ·rw [show (ls.any fun o => (mget o k).isSome) = true from List.any_eq_true.2 ⟨o, ho, h2⟩]
  show some (decide ((t : Int) ≥ 0)) = _
  rw [show decide ((t : Int) ≥ 0) = true from decide_eq_true (by omega)]
abbrev rLst := E.rMap K.kStr K.E.wfS rApiEntry true
theorem csm_blk {m : Mem} {g : Nat} {cs : List Value} {t : TypeId} (h : m g = some (.cells cs.toArray t (0, 0))) : CsM m (some ⟨g, 0, none⟩) cs := fun j u hj => ⟨_, rfl, by
 have e : (⟨g, 0, none⟩ : Addr).add j = ⟨g, j, none⟩ := by
  by_cases h0 : j = 0
  ·subst h0; rfl
  ·simp [Addr.add, h0]
 rw [e]
 exact mc_blk h hj⟩
theorem cf_c {m : Mem} {w : World} (hm : Has m w) (ls : List (List (List UInt8 × TApiEntry))) (A : Option Addr) (c : Nat) (hs : SlI (E.rPt rLst) m A c ls) (g : Nat) (k : List UInt8) (hk : k.length ≤ 9223372036854775807) (hb : m g = some (.cells #[.string ⟨k.toArray⟩] 9 (0, 0))) :
  Calls Tryz.prog 110 #[.slice A ls.length c, .func (.func 111) #[] #[.pointer (some ⟨g, 0, none⟩)]] w fun e w' => ∃ v, e = .returned v ∧ v = .bool (ls.any fun o => (mget o k).isSome) ∧ Ex w w' :=
 E.ConOk.plain slices_ContainsFunc_diff_listing_Entry_diff_listing_Entry_ok Tryz.call110 hm glob_of (ls, k) [.slice A ls.length c, .func (.func 111) #[] #[.pointer (some ⟨g, 0, none⟩)]]
  ⟨_, _, rfl, ⟨A, c, rfl, hs⟩, _, _, rfl, ⟨[], [.pointer (some ⟨g, 0, none⟩)], rfl, rfl, _, _, rfl, ⟨⟨g, 0, none⟩, [.string ⟨k.toArray⟩], rfl, csm_blk hb, _, _, rfl, ⟨rfl, hk⟩, rfl⟩, rfl⟩, rfl⟩ rfl rfl (cf_eq ls k hs.bound)
  [.bool (ls.any fun o => (mget o k).isSome)] rfl (fun η m vs h => by
   obtain ⟨v1, r1, rfl, h3, h4⟩ := h
   have h3 : v1 = _ := h3
   have h4 : r1 = [] := h4
   subst h3 h4
   rfl)
theorem srt_c {m : Mem} {w : World} (hm : Has m w) (A : Option Addr) (c : Nat) {l r : List (List UInt8)} (hf : sort_String l = some r) {F : Nat → Prop} (hs : Sep m w [rowI rStr 9 A c l] F) (hd : ∀ k, F k → m k = none) :
  Calls Tryz.prog 112 #[.slice A l.length c, .func (.func 113) #[] #[]] w fun e w' => ∃ v, e = .returned v ∧ v = .tuple #[] ∧ ∃ m', r.length = l.length ∧ St w F m m' [rowI rStr 9 A c r] w' := by
 obtain ⟨F1, F2, h1, h2, h3, h4⟩ := hs
 have hc := sort_String_ok 0 (l, ()) r hf [.slice A l.length c] m w F [.slice A l.length c, .func (.func 113) #[] #[]] ⟨_, _, rfl, ⟨rfl, rfl⟩, _, _, rfl, ⟨[], [], rfl, rfl, rfl⟩, rfl⟩ rfl hm glob_of ⟨F1, F2, ⟨A, c, rfl, h1⟩, h2, h3, h4⟩ hd
 rcases hc with ⟨_, hc⟩ | ⟨v, w', hv, _⟩
 ·refine hc.mono fun e w' ⟨v, he, η2, m', rv, bv, hv, hl, hr', hlen, hS, hbv⟩ => ?_
  have hl : rv = [] := List.eq_nil_of_length_eq_zero hl
  subst hl
  have hr' : E.RL tbl ([Value.slice A l.length c] ++ η2) m' [.row 1] ([] ++ bv) := hr'
  obtain ⟨u, hu, e1, e2⟩ := E.RL.one hr'
  have hu : bv = [u] := hu
  subst hu
  have hbv : [u] = [Value.slice A l.length c] := hbv
  cases hbv
  have key : r.length = l.length ∧ St w F m m' [rowI rStr 9 A c r] w' := by
   have hS : St w F m m' (E.its tbl ([Value.slice A l.length c] ++ η2) [(1, 0, .row 4 9 r)]) w' := hS
   obtain ⟨G, g1, g2, g3⟩ := hS.sep
   obtain ⟨G1, G2, ⟨A2, c2, q1, q2⟩, q3, q4, q5⟩ := g1
   rw [e1] at q1
   injection q1 with q1
   injection q1 with q6 q7 q8
   subst q6 q8
   exact ⟨q7.symm, hS.kp, hS.sub, hS.has, hS.new, G, ⟨G1, G2, q2, q3, q4, q5⟩, g2, g3⟩
  exact ⟨v, he, by rw [hv]; rfl, m', key⟩
 ·have := (Tryz.call112 _ w).symm.trans hv
  cases this
theorem mval_keys {β : Type} {r : Rep β} {g : Bool} {wf : List UInt8 → Prop} {m : Mem} : ∀ {lv : List (List UInt8 × Value)} {l : List (List UInt8 × β)}, E.MVal r g wf m lv l → lv.map (·.1) = l.map (·.1) ∧ ∀ k ∈ l.map (·.1), wf k
 | [], _, h => by rw [show _ = [] from h]; exact ⟨rfl, fun _ h => by cases h⟩
 | (k, u) :: lv, _, ⟨x, l', h1, h2, h3, h4⟩ => by
  subst h1
  obtain ⟨e1, e2⟩ := mval_keys h4
  refine ⟨by simp only [List.map_cons, e1], fun k' hk => ?_⟩
  rcases List.mem_cons.1 hk with rfl | hk
  ·exact h2
  ·exact e2 _ hk
theorem zip_keys {α β γ : Type} (f : α → γ) (h : β → γ) : ∀ {l : List α} {m : List β}, l.map f = m.map h → (l.zip m).map Prod.fst = l ∧ (l.zip m).map Prod.snd = m ∧ ∀ p ∈ l.zip m, f p.1 = h p.2
 | [], [], _ => ⟨rfl, rfl, fun _ h => by cases h⟩
 | [], _ :: _, e => by cases e
 | _ :: _, [], e => by cases e
 | a :: l, b :: m, e => by
  rw [List.map_cons, List.map_cons, List.cons.injEq] at e
  obtain ⟨e1, e2, e3⟩ := zip_keys f h e.2
  refine ⟨by rw [List.zip_cons_cons, List.map_cons, e1], by rw [List.zip_cons_cons, List.map_cons, e2], fun p hp => ?_⟩
  rcases List.mem_cons.1 hp with rfl | hp
  ·exact e.1
  ·exact e3 p hp
theorem diff_keys_c {m : Mem} {w : World} (hm : Has m w) (ls : List (List (List UInt8 × TApiEntry))) (A0 : Option Addr) (c0 : Nat) (s0 : SlI (E.rPt rLst) m A0 c0 ls) (hlen : (keysU [] ls).length ≤ 100000000) {Φ : Ending → World → Prop}
  (hΦ : ∀ (O r : List (List UInt8)) (A : Option Addr) (c : Nat), O.Perm (keysU [] ls) → ∃ r, sort_String O = some r ∧ ∀ (m' : Mem) (w' : World), St w noF m m' [rowI rStr 9 A c r] w' → r.length = O.length → Φ (.returned (.slice A r.length c)) w') :
  Calls Tryz.prog 61 #[.slice A0 ls.length c0] w Φ := by
 have H := St.start0 hm
 refine callsR Tryz.func61 (by kernel_rfl) (by kernel_rfl) ?_
 refine seg 16 [.co [1, 1, 0, 1, 0], .bl 0, .co [1, 1, 1]] [(0, .slice A0 ls.length c0), (3, .slice none 0 0), (7, .slice A0 ls.length c0), (8, .int .i64 (ls.length : Int)), (9, .int .i64 0)] (by kernel_rfl) ?_
 have H := H.nilR rStr 9
 have hb0 := s0.bound
 refine loopR 0 (fun (x : Nat × (List (List UInt8)) × Option Addr × Nat × Mem) => [(0, .slice A0 ls.length c0), (3, .slice (x.2.2.1) x.2.1.length (x.2.2.2.1)), (7, .slice A0 ls.length c0), (8, .int .i64 (ls.length : Int)), (9, .int .i64 (x.1 : Int))])
  (fun (x : Nat × (List (List UInt8)) × Option Addr × Nat × Mem) (w' : World) => x.1 ≤ ls.length ∧ (x.2.1 ++ keysU (ls.take x.1) (ls.drop x.1)).Perm (keysU [] ls) ∧ Sub m x.2.2.2.2 ∧ St w noF m x.2.2.2.2 [rowI rStr 9 (x.2.2.1) (x.2.2.2.1) x.2.1] w')
  (fun (x : Nat × (List (List UInt8)) × Option Addr × Nat × Mem) => ls.length - x.1) (0, [], none, 0, m) (by kernel_rfl) (by kernel_rfl) (by kernel_rfl) ?_ ?_
 ·exact ⟨Nat.zero_le _, List.Perm.refl _, Sub.refl _, H⟩
 rintro ⟨i, O, A, c, m1⟩ w1 ⟨hi, hO, hs1, H⟩
 dsimp only at hi hO hs1 H ⊢
 refine seg 5 [.co [1, 1, 0, 1, 0, 0, 1, 0], .co [1, 1, 0, 1, 0, 0, 1, 1], .le 0, .bl 0, .co [1, 1, 1]] [(0, .slice A0 ls.length c0), (3, .slice A O.length c), (7, .slice A0 ls.length c0), (8, .int .i64 (ls.length : Int)), (9, .int .i64 (i : Int)), (10, .bool (decide ((i : Int) < (ls.length : Int))))] (by kernel_rfl) ?_
 by_cases hlt : i < ls.length
 rotate_left
 ·
  rw [show decide ((i : Int) < (ls.length : Int)) = false from decide_eq_false (by omega)]
  have hdr : ls.drop i = [] := List.drop_of_length_le (by omega)
  rw [hdr] at hO
  have hO : O.Perm (keysU [] ls) := by simpa [keysU] using hO
  refine seg 5 [.op [1, 1, 1, 0] 1, .co [1, 1, 1, 1]] [(3, .slice A O.length c), (34, .slice A O.length c)] (by kernel_rfl) ?_
  obtain ⟨r, hr, hfin⟩ := hΦ O [] A c hO
  obtain ⟨F, hse, hFn, hcl⟩ := St.call [rowI rStr 9 A c O] H
  refine st (callR (some 35) 112 #[.slice A O.length c, .func (.func 113) #[] #[]] Tryz.call112 (srt_c H.has A c hr hse hFn) (by kernel_rfl) ?_)
  rintro _ w2 ⟨rfl, m2, hrl, hS⟩
  have H := hcl _ _ _ hS
  refine seg 6 [.co [1, 1, 1, 1, 1]] [(2, .slice A O.length c)] (by kernel_rfl) ?_
  refine retR [2] [.slice A O.length c] (by kernel_rfl) (by kernel_rfl) (by kernel_rfl) ?_
  have := hfin m2 w2 ⟨H.kp, hs1.trans (Sub.refl _) |>.trans hS.sub, H.has, H.new, H.sep⟩ hrl
  rw [hrl] at this
  exact this
 rw [show decide ((i : Int) < (ls.length : Int)) = true from decide_eq_true (by omega)]
 obtain ⟨o, ho⟩ : ∃ o, ls[i]? = some o := ⟨_, List.getElem?_eq_getElem hlt⟩
 obtain ⟨ad, cs, hA, ⟨A1, ds, rfl, hcs, hmap⟩, hcell⟩ := (s0.mono hs1).at_ ho (by decide)
 obtain ⟨v1, rfl, b, es, clock, lv, rfl, hmb, ⟨hes, hB⟩, hlv⟩ := hmap
 have hc1 := hcell 0 _ rfl
 obtain ⟨A1', e1, hc2⟩ := hcs 0 _ rfl
 cases e1
 refine seg 7 [.op [1, 1, 0, 1, 0, 0, 1, 1, 0, 0, 0] 1, .co [1, 1, 0, 1, 0, 0, 1, 1, 0, 0, 1], .bl 1, .co [1, 1, 0, 1, 0, 0, 1, 1, 1], .le 0, .bl 0, .co [1, 1, 1]] [(0, .slice A0 ls.length c0), (3, .slice A O.length c), (7, .slice A0 ls.length c0), (8, .int .i64 (ls.length : Int)), (9, .int .i64 (i : Int)), (11, .int .i64 (i : Int))] (by kernel_rfl) ?_
 refine st (idxS (some 12) 188 98 1 A0 ad ls.length c0 .i64 (i : Int) hA (by kernel_rfl) (by kernel_rfl) (by omega) (by omega) ?_)
 rw [Int.toNat_natCast]
 refine st (ldR (some 13) 98 (ad.add (i * 1)) (.pointer (some A1)) (by kernel_rfl) (by kernel_rfl) (H.cellI (mc0 hc1)) ?_)
 refine seg 8 [.op [1, 1, 0, 1, 0, 0, 1, 1, 0, 0, 1, 0] 3, .co [1, 1, 0, 1, 0, 0, 1, 1, 0, 0, 1, 1], .bl 1, .co [1, 1, 0, 1, 0, 0, 1, 1, 1], .le 0, .bl 0, .co [1, 1, 1]] [(0, .slice A0 ls.length c0), (3, .slice A O.length c), (4, .int .i64 (i : Int)), (7, .slice A0 ls.length c0), (8, .int .i64 (ls.length : Int)), (9, .int .i64 (i : Int)), (16, .pointer (some A1))] (by kernel_rfl) ?_
 refine st (ldR (some 17) 103 A1 (.map (some b)) (by kernel_rfl) (by kernel_rfl) (H.cellI (mc0 hc2)) ?_)
 refine st (rangeS (some 18) 103 9 40 b H hmb Tryz.underlying103 (by kernel_rfl) ?_)
 intro g w2 H
 refine seg 2 [.co [1, 1, 0, 1, 0, 0, 1, 1, 0, 0, 1, 1, 0], .bl 2, .bl 1, .co [1, 1, 0, 1, 0, 0, 1, 1, 1], .le 0, .bl 0, .co [1, 1, 1]] [(0, .slice A0 ls.length c0), (3, .slice A O.length c), (4, .int .i64 (i : Int)), (7, .slice A0 ls.length c0), (8, .int .i64 (ls.length : Int)), (9, .int .i64 (i : Int)), (18, .pointer (some ⟨g, 0, none⟩))] (by kernel_rfl) ?_
 obtain ⟨hk1, hk2⟩ := mval_keys hlv
 have hkey : es.toList.map (fun e => e.key) = (o.map (·.1)).map kStr.fk := by
  have := congrArg (List.map Prod.fst) hes
  rw [List.map_map, List.map_map] at this
  rw [← hk1, List.map_map]
  exact this
 obtain ⟨z1, z2, z3⟩ := zip_keys (fun e : MapEntry => e.key) kStr.fk hkey
 generalize hE : es.toList.zip (o.map (·.1)) = EL at z1 z2 z3
 let P : List UInt8 → Bool := fun k => !(ls.take i).any fun o => (mget o k).isSome
 have hleft : ∀ seen : Array Nat, (leftOf es seen).toList = (EL.filter (fun y => !seen.contains y.1.born)).map Prod.fst := fun seen => by
  rw [left_list, ← z1, List.filter_map]
  rfl
 have hnd : (EL.map (fun y => y.1.born)).Nodup := by
  have : EL.map (fun y => y.1.born) = es.toList.map (·.born) := by rw [← z1, List.map_map]; rfl
  rw [this]
  exact hB.1
 have htk : ls.drop i = o :: ls.drop (i + 1) := by rw [List.drop_eq_getElem_cons hlt]; rw [List.getElem?_eq_getElem hlt] at ho; cases ho; rfl
 have htk2 : ls.take (i + 1) = ls.take i ++ [o] := by rw [List.take_add_one, ho]; rfl
 have hU : keysU (ls.take i) (ls.drop i) = (o.map (·.1)).filter P ++ keysU (ls.take (i + 1)) (ls.drop (i + 1)) := by rw [htk, htk2]; rfl
 refine loopR 1 (fun (x : Array Nat × (List (List UInt8)) × Option Addr × Nat × Mem) => [(0, .slice A0 ls.length c0), (3, .slice (x.2.2.1) x.2.1.length (x.2.2.2.1)), (4, .int .i64 (i : Int)), (7, .slice A0 ls.length c0), (8, .int .i64 (ls.length : Int)), (9, .int .i64 (i : Int)), (18, .pointer (some ⟨g, 0, none⟩))])
  (fun (x : Array Nat × (List (List UInt8)) × Option Addr × Nat × Mem) (w' : World) => Sub m1 x.2.2.2.2 ∧ (x.2.1 ++ ((EL.filter (fun y => !x.1.contains y.1.born)).map Prod.snd).filter P).Perm (O ++ (o.map (·.1)).filter P) ∧ St w noF m x.2.2.2.2 [objI g (.mapIter (some b) clock x.1 clock), rowI rStr 9 (x.2.2.1) (x.2.2.2.1) x.2.1] w')
  (fun (x : Array Nat × (List (List UInt8)) × Option Addr × Nat × Mem) => (leftOf es x.1).size) (#[], O, A, c, m1) (by kernel_rfl) (by kernel_rfl) (by kernel_rfl) ?_ ?_
 ·refine ⟨Sub.refl _, ?_, H⟩
  rw [show EL.filter (fun y => !(#[] : Array Nat).contains y.1.born) = EL from List.filter_eq_self.2 fun y _ => by simp, z2]
 rintro ⟨seen, O1, A2, c2, m2⟩ w3 ⟨hs2, hP, H⟩
 dsimp only at hs2 hP H ⊢
 refine seg 2 [.op [1, 1, 0, 1, 0, 0, 1, 1, 0, 0, 1, 1, 0, 0, 0] 0, .co [1, 1, 0, 1, 0, 0, 1, 1, 0, 0, 1, 1, 0, 0, 1], .le 1, .bl 2, .bl 1, .co [1, 1, 0, 1, 0, 0, 1, 1, 1], .le 0, .bl 0, .co [1, 1, 1]] [(0, .slice A0 ls.length c0), (3, .slice A2 O1.length c2), (4, .int .i64 (i : Int)), (7, .slice A0 ls.length c0), (8, .int .i64 (ls.length : Int)), (9, .int .i64 (i : Int)), (18, .pointer (some ⟨g, 0, none⟩))] (by kernel_rfl) ?_
 refine st (nextS (some 19) 0 g b clock clock 0 seen H rfl (hs2 _ _ hmb) (fun x hx => hB.2 x hx) (Nat.le_refl _) (by kernel_rfl) ?_ ?_)
 ·
  intro h0
  have hl0 : (EL.filter (fun y => !seen.contains y.1.born)) = [] := by
   have := congrArg List.length (hleft seen)
   rw [Array.length_toList, h0, List.length_map] at this
   exact List.eq_nil_of_length_eq_zero this.symm
  rw [hl0, List.map_nil, List.filter_nil, List.append_nil] at hP
  replace H := H.drop 0 rfl
  refine seg 10 [.le 0, .bl 0, .co [1, 1, 1]] [(0, .slice A0 ls.length c0), (3, .slice A2 O1.length c2), (7, .slice A0 ls.length c0), (8, .int .i64 (ls.length : Int)), (9, .int .i64 (IntKind.i64.wrap ((i : Int) + 1)))] (by kernel_rfl) ?_
  rw [show IntKind.i64.wrap ((i : Int) + 1) = ((i + 1 : Nat) : Int) from wI ⟨by omega, by omega⟩]
  refine leR_up (k' := [.bl 0, .co [1, 1, 1]]) (by rfl) ?_
  refine leR (i + 1, O1, A2, c2, m2) ?_ ⟨by omega, ?_, hs1.trans hs2, H⟩ (by kernel_rfl)
  ·show ls.length - (i + 1) < ls.length - i
   omega
  ·rw [hU, ← List.append_assoc] at hO
   exact (hP.append_right _).trans hO
 ·intro e he w4 H
  rw [hleft seen] at he
  obtain ⟨⟨e', k⟩, hy, rfl⟩ := List.mem_map.1 he
  obtain ⟨hyE, hyS⟩ := List.mem_filter.1 hy
  have hek : e'.key = .string ⟨k.toArray⟩ := z3 _ hyE
  have hkw : k.length ≤ 9223372036854775807 := hk2 k (by rw [← z2]; exact List.mem_map_of_mem (f := Prod.snd) hyE)
  have hees : e' ∈ es.toList := by rw [← z1]; exact List.mem_map_of_mem (f := Prod.fst) hyE

  have hsub2 : (EL.filter (fun y => !seen.contains y.1.born)).map (fun y => y.1.born) |>.Nodup := hnd.sublist (List.filter_sublist.map _)
  have hrest : EL.filter (fun y => !(seen.push e'.born).contains y.1.born) = (EL.filter (fun y => !seen.contains y.1.born)).filter (fun y => y.1.born != e'.born) := by
   rw [List.filter_filter]
   refine List.filter_congr fun y _ => ?_
   simp [Bool.and_comm, bne]
   rfl
  have hperm := filter_out (fun y : MapEntry × List UInt8 => y.1.born) hsub2 hy
  have hperm : (EL.filter (fun y => !seen.contains y.1.born)).Perm ((e', k) :: EL.filter (fun y => !(seen.push e'.born).contains y.1.born)) := by rw [hrest]; exact hperm
  have hsz : (leftOf es (seen.push e'.born)).size < (leftOf es seen).size := by
   have h1 := congrArg List.length (hleft seen)
   have h2 := congrArg List.length (hleft (seen.push e'.born))
   have h3 := hperm.length_eq
   rw [Array.length_toList, List.length_map] at h1 h2
   rw [List.length_cons] at h3
   omega
  have hP2 : (O1 ++ (k :: (EL.filter (fun y => !(seen.push e'.born).contains y.1.born)).map Prod.snd).filter P).Perm (O ++ (o.map (·.1)).filter P) :=
   (List.Perm.append_left _ ((hperm.map Prod.snd).filter P)).symm.trans hP
  refine seg 8 [.op [1, 1, 0, 1, 0, 0, 1, 1, 0, 0, 1, 1, 0, 0, 1, 1, 0, 0] 0, .co [1, 1, 0, 1, 0, 0, 1, 1, 0, 0, 1, 1, 0, 0, 1, 1, 0, 1], .bl 3, .le 1, .bl 2, .bl 1, .co [1, 1, 0, 1, 0, 0, 1, 1, 1], .le 0, .bl 0, .co [1, 1, 1]] [(0, .slice A0 ls.length c0), (3, .slice A2 O1.length c2), (4, .int .i64 (i : Int)), (7, .slice A0 ls.length c0), (8, .int .i64 (ls.length : Int)), (9, .int .i64 (i : Int)), (18, .pointer (some ⟨g, 0, none⟩))] (by kernel_rfl) ?_
  refine st (entryS (some 21) 0 g b clock seen H rfl (hs2 _ _ hmb) hees hB.1 (by kernel_rfl) ?_)
  rw [hek]
  refine seg 1 [.op [1, 1, 0, 1, 0, 0, 1, 1, 0, 0, 1, 1, 0, 0, 1, 1, 0, 0] 2, .co [1, 1, 0, 1, 0, 0, 1, 1, 0, 0, 1, 1, 0, 0, 1, 1, 0, 1], .bl 3, .le 1, .bl 2, .bl 1, .co [1, 1, 0, 1, 0, 0, 1, 1, 1], .le 0, .bl 0, .co [1, 1, 1]] [(0, .slice A0 ls.length c0), (3, .slice A2 O1.length c2), (4, .int .i64 (i : Int)), (7, .slice A0 ls.length c0), (8, .int .i64 (ls.length : Int)), (9, .int .i64 (i : Int)), (18, .pointer (some ⟨g, 0, none⟩)), (22, .string ⟨k.toArray⟩)] (by kernel_rfl) ?_
  refine st (newS (some 6) (fun g => .pointer (some ⟨g, 0, none⟩)) [.string ⟨([] : List UInt8).toArray⟩] 9 H (by kernel_rfl) ?_)
  intro g1 w5 H
  refine st (stS none 9 0 g1 0 (.string ⟨k.toArray⟩) [.string ⟨([] : List UInt8).toArray⟩] 9 H rfl (by kernel_rfl) (by kernel_rfl) rfl (of_decide_eq_true rfl) ?_)
  intro w6 H
  replace H : St w noF m m2 [blkI g1 [.string ⟨k.toArray⟩] 9, objI g (.mapIter (some b) clock (seen.push e'.born) clock), rowI rStr 9 A2 c2 O1] w6 := H
  obtain ⟨m3, hs3, hbox, H⟩ := H.fixB 0 rfl
  replace H : St w noF m m3 [objI g (.mapIter (some b) clock (seen.push e'.born) clock), rowI rStr 9 A2 c2 O1] w6 := H
  refine seg 5 [.op [1, 1, 0, 1, 0, 0, 1, 1, 0, 0, 1, 1, 0, 0, 1, 1, 0, 1, 0] 2, .co [1, 1, 0, 1, 0, 0, 1, 1, 0, 0, 1, 1, 0, 0, 1, 1, 0, 1, 1], .bl 3, .le 1, .bl 2, .bl 1, .co [1, 1, 0, 1, 0, 0, 1, 1, 1], .le 0, .bl 0, .co [1, 1, 1]] [(0, .slice A0 ls.length c0), (3, .slice A2 O1.length c2), (4, .int .i64 (i : Int)), (6, .pointer (some ⟨g1, 0, none⟩)), (7, .slice A0 ls.length c0), (8, .int .i64 (ls.length : Int)), (9, .int .i64 (i : Int)), (18, .pointer (some ⟨g, 0, none⟩)), (23, .slice A0 ls.length c0), (24, .int .i64 (i : Int))] (by kernel_rfl) ?_
  have hsl : slc ls 0 (i : Int) = some (ls.take i) := by rw [slc_ok ⟨by omega, by omega, by omega⟩]; rfl
  refine st (sliS (r := E.rPt rLst) (some 25) 188 98 A0 c0 ls (ls.take i) none (some (.int .i64 (i : Int))) 0 (i : Int) (s0.mono ((hs1.trans hs2).trans hs3)) (by kernel_rfl) (by kernel_rfl) (.inl ⟨rfl, rfl⟩) (.inr ⟨_, rfl⟩) hsl ?_)
  intro A3 c3 hs5
  refine seg 1 [.op [1, 1, 0, 1, 0, 0, 1, 1, 0, 0, 1, 1, 0, 0, 1, 1, 0, 1, 0] 4, .co [1, 1, 0, 1, 0, 0, 1, 1, 0, 0, 1, 1, 0, 0, 1, 1, 0, 1, 1], .bl 3, .le 1, .bl 2, .bl 1, .co [1, 1, 0, 1, 0, 0, 1, 1, 1], .le 0, .bl 0, .co [1, 1, 1]] [(0, .slice A0 ls.length c0), (3, .slice A2 O1.length c2), (4, .int .i64 (i : Int)), (6, .pointer (some ⟨g1, 0, none⟩)), (7, .slice A0 ls.length c0), (8, .int .i64 (ls.length : Int)), (9, .int .i64 (i : Int)), (18, .pointer (some ⟨g, 0, none⟩)), (25, .slice A3 (ls.take i).length c3), (26, .func (.func 111) #[] #[.pointer (some ⟨g1, 0, none⟩)])] (by kernel_rfl) ?_
  refine st (callR (some 27) 110 #[.slice A3 (ls.take i).length c3, .func (.func 111) #[] #[.pointer (some ⟨g1, 0, none⟩)]] Tryz.call110 (cf_c H.has (ls.take i) A3 c3 hs5 g1 k hkw hbox) (by kernel_rfl) ?_)
  rintro _ w7 ⟨rfl, hx7⟩
  replace H := H.ex hx7
  generalize hbk : ((ls.take i).any fun o => (mget o k).isSome) = bk
  have hPk : P k = !bk := by rw [← hbk]
  refine seg 2 [.co [1, 1, 0, 1, 0, 0, 1, 1, 0, 0, 1, 1, 0, 0, 1, 1, 0, 1, 1], .bl 3, .le 1, .bl 2, .bl 1, .co [1, 1, 0, 1, 0, 0, 1, 1, 1], .le 0, .bl 0, .co [1, 1, 1]] [(0, .slice A0 ls.length c0), (3, .slice A2 O1.length c2), (4, .int .i64 (i : Int)), (6, .pointer (some ⟨g1, 0, none⟩)), (7, .slice A0 ls.length c0), (8, .int .i64 (ls.length : Int)), (9, .int .i64 (i : Int)), (18, .pointer (some ⟨g, 0, none⟩)), (28, .bool (!bk))] (by kernel_rfl) ?_
  rw [List.filter_cons, hPk] at hP2
  cases bk with
  | true =>
   rw [Bool.not_true, if_neg (by decide)] at hP2
   refine seg 3 [.le 1, .bl 2, .bl 1, .co [1, 1, 0, 1, 0, 0, 1, 1, 1], .le 0, .bl 0, .co [1, 1, 1]] [(0, .slice A0 ls.length c0), (3, .slice A2 O1.length c2), (4, .int .i64 (i : Int)), (7, .slice A0 ls.length c0), (8, .int .i64 (ls.length : Int)), (9, .int .i64 (i : Int)), (18, .pointer (some ⟨g, 0, none⟩))] (by kernel_rfl) ?_
   exact leR (seen.push e'.born, O1, A2, c2, m3) hsz ⟨hs2.trans hs3, hP2, H⟩ (by kernel_rfl)
  | false =>
   rw [Bool.not_false, if_pos rfl] at hP2
   refine seg 3 [.op [1, 1, 0, 1, 0, 0, 1, 1, 0, 0, 1, 1, 0, 0, 1, 1, 0, 1, 1, 0] 1, .bl 3, .le 1, .bl 2, .bl 1, .co [1, 1, 0, 1, 0, 0, 1, 1, 1], .le 0, .bl 0, .co [1, 1, 1]] [(0, .slice A0 ls.length c0), (4, .int .i64 (i : Int)), (6, .pointer (some ⟨g1, 0, none⟩)), (7, .slice A0 ls.length c0), (8, .int .i64 (ls.length : Int)), (9, .int .i64 (i : Int)), (18, .pointer (some ⟨g, 0, none⟩)), (29, .slice A2 O1.length c2)] (by kernel_rfl) ?_
   refine st (ldR (some 30) 9 ⟨g1, 0, none⟩ (.string ⟨k.toArray⟩) (by kernel_rfl) (by kernel_rfl) (H.cellI (mc_blk hbox rfl)) ?_)
   refine st (newS (some 31) (fun g => .slice (some ⟨g, 0, none⟩) 1 1) [.string ⟨k.toArray⟩] 9 H (by kernel_rfl) ?_)
   intro g2 w8 H
   have hlO : O1.length ≤ 100000000 := by
    have h1 := hP2.length_eq
    have h2 := hO.length_eq
    rw [hU] at h2
    simp only [List.length_append, List.length_cons] at h1 h2
    omega
   refine st (appS (r := rStr) (some 32) 43 9 16 (.string ⟨([] : List UInt8).toArray⟩) 43 2 A2 (some ⟨g2, 0, none⟩) c2 1 1 O1 [k] (O1 ++ [k]) _ H rfl ⟨Tryz.underlying43, by kernel_rfl⟩ rfl (by decide) (by kernel_rfl) (Cs.of_blk (H.blk 0 rfl)) ⟨[.string ⟨k.toArray⟩], [], rfl, ⟨rfl, hkw⟩, rfl⟩ rfl (app_ok (by simp only [List.length_cons, List.length_nil]; omega)) (by decide) (by decide) ?_)
   intro A4 c4 w9 H
   replace H := H.drop 0 rfl
   refine seg 3 [.le 1, .bl 2, .bl 1, .co [1, 1, 0, 1, 0, 0, 1, 1, 1], .le 0, .bl 0, .co [1, 1, 1]] [(0, .slice A0 ls.length c0), (3, .slice A4 (O1 ++ [k]).length c4), (4, .int .i64 (i : Int)), (7, .slice A0 ls.length c0), (8, .int .i64 (ls.length : Int)), (9, .int .i64 (i : Int)), (18, .pointer (some ⟨g, 0, none⟩))] (by kernel_rfl) ?_
   exact leR (seen.push e'.born, O1 ++ [k], A4, c4, m3) hsz ⟨hs2.trans hs3, by rw [List.append_assoc]; exact hP2, H⟩ (by kernel_rfl)
theorem all_perm {α : Type} {O l : List α} (hp : O.Perm l) (f : α → Bool) : O.all f = l.all f := by
 rw [Bool.eq_iff_iff, List.all_eq_true, List.all_eq_true]
 exact ⟨fun h x hx => h x (hp.mem_iff.2 hx), fun h x hx => h x (hp.mem_iff.1 hx)⟩
theorem sortBy_perm {α : Type} [DecidableEq α] {cmp : α → α → Option Int} {O l r : List α} (h : E.sortBy cmp l = some r) (hp : O.Perm l) : E.sortBy cmp O = some r := by
 have spec := E.sortBy_spec h
 unfold E.sortBy at h ⊢
 have hk : E.sortOk cmp O = E.sortOk cmp l := by
  unfold E.sortOk
  simp only [all_perm hp]
 rw [hk, hp.length_eq]
 cases hb : (Nat.blt l.length 4611686018427387904 && E.sortOk cmp l) with
 | false => rw [hb] at h; cases h
 | true =>
  rw [cond_true]
  refine congrArg some (spec.uniq _ ((E.isort_perm _ _).trans hp) ?_)
  exact E.isort_sorted (p := fun x => x ∈ l) (fun x hx => spec.irr x hx) (fun x y z hx hy hz => spec.tr x hx y hy z hz) (fun x y z hx hy hz => spec.ntr x hx y hy z hz) (fun x hx => hp.mem_iff.1 hx)
theorem diff_keys_ok : E.ConOk Tryz.prog tbl c_diff_keys := by
 intro st x y hy η m w F vals hr hlen has gl hs hd
 have hr : E.RL tbl η m [.sl 15 x] vals := hr
 obtain ⟨v0, rfl, A0, c0, rfl, s0⟩ := E.RL.one hr
 have hlen : η.length = 0 := hlen
 have hy : diff_keys x = some y := hy
 unfold diff_keys at hy
 obtain ⟨u, hc, hy⟩ := bindE hy
 have hn : (keysU [] x).length ≤ 100000000 := by
  unfold chk at hc
  cases hd : decide ((keysU [] x).length ≤ 100000000) with
  | true => exact of_decide_eq_true hd
  | false => rw [hd] at hc; cases hc
 refine .inl ⟨Tryz.call61 _ _, diff_keys_c has x A0 c0 s0 hn ?_⟩
 intro O _ A c hO
 refine ⟨y, sortBy_perm hy hO, fun m' w' hS _ => ?_⟩
 refine ⟨_, rfl, [.slice A y.length c], m', [.slice A y.length c], [], rfl, rfl, ⟨_, _, rfl, ⟨?_, rfl⟩, rfl⟩, ?_, ?_, rfl⟩
 ·rw [List.getElem?_append_right (Nat.le_refl _), Nat.sub_self]; rfl
 ·rw [List.length_append]; rfl
 ·have H := (St.start has hs hd).call0 hS
  refine E.St_conv H (fun F hF => ⟨A, c, ?_, hF⟩) (fun _ e => e)
  rw [List.getElem?_append_right (Nat.le_refl _), Nat.sub_self]; rfl
end Go.Proofs.YtkleajhiihbefaaGreatDoor.F
set_option linter.unusedVariables false
set_option linter.unusedSimpArgs false
namespace Go.Proofs.YtkleajhiihbefaaGreatDoor.F
open Go Go.RowKit Go.Proofs.YtkleajhiihbefaaGreatDoor Go.Proofs.YtkleajhiihbefaaGreatDoor.K Go.Proofs.YtkleajhiihbefaaGreatDoor.K.E
set_option maxRecDepth 100000
noncomputable def c_diff_copied : Con Tt := ⟨63, (sh [(.agg (sh [.str, .i64, .i64, .i64, .i64, .i64, .i64, (.sl 1), .str, .i64, (.sl 3)]))]), (sh [(.agg (sh [.str, .i64, .i64, .i64, .i64, .i64, .i64, (.sl 1), .str, .i64, (.sl 3)]))]), 1, [], [], fun x => diff_copied x.1 x.2.1 x.2.2.1 x.2.2.2.1 x.2.2.2.2.1 x.2.2.2.2.2.1 x.2.2.2.2.2.2.1 x.2.2.2.2.2.2.2.1 x.2.2.2.2.2.2.2.2.1 x.2.2.2.2.2.2.2.2.2.1 x.2.2.2.2.2.2.2.2.2.2⟩
theorem diff_copied_ok : ConOk Tryz.prog tbl c_diff_copied := fn_ok (cs := [c_bytes_Clone]) (an := [([1, 1, 1, 1, 0, 1, 0], .loop 0 ⟨[15], [(0, 40)], (sh [.i64, (.agg (sh [.str, .i64, .i64, .i64, .i64, .i64, .i64, (.row 1 5), .str, .i64, (.row 3 109)]))]), [1, 2, 13, 14], [1]⟩ ⟨[], [(0, 40)], (sh [(.agg (sh [.str, .i64, .i64, .i64, .i64, .i64, .i64, (.row 1 5), .str, .i64, (.row 3 109)]))]), [1, 2], [1]⟩), ([1, 1, 1, 1, 0, 1, 0, 0, 1, 1, 0, 0, 1], .lock [5])]) (fn := Tryz.f63) tOk (conCons bytes_Clone_ok conNil) (by rfl) Tryz.func63 (by kernel_rfl) (fun _ _ => by rfl) (fun _ => by kernel_rfl) (by kernel_rfl) (fun x => by kernel_rfl)
noncomputable def c_diff_all_1 : Con Tt := ⟨116, (sh [(.agg (sh [.str, .i64, .i64, .i64, .i64, .i64, .i64, (.sl 1), .str, .i64, (.sl 3)])), (.agg (sh [.str, .i64, .i64, .i64, .i64, .i64, .i64, (.sl 1), .str, .i64, (.sl 3)]))]), (sh [.bool]), 1, [], [], fun x => diff_all_1 x.1.1 x.1.2.1 x.1.2.2.1 x.1.2.2.2.1 x.1.2.2.2.2.1 x.1.2.2.2.2.2.1 x.1.2.2.2.2.2.2.1 x.1.2.2.2.2.2.2.2.1 x.1.2.2.2.2.2.2.2.2.1 x.1.2.2.2.2.2.2.2.2.2.1 x.1.2.2.2.2.2.2.2.2.2.2 x.2.1 x.2.2.1 x.2.2.2.1 x.2.2.2.2.1 x.2.2.2.2.2.1 x.2.2.2.2.2.2.1 x.2.2.2.2.2.2.2.1 x.2.2.2.2.2.2.2.2.1 x.2.2.2.2.2.2.2.2.2.1 x.2.2.2.2.2.2.2.2.2.2.1 x.2.2.2.2.2.2.2.2.2.2.2⟩
theorem diff_all_1_ok : ConOk Tryz.prog tbl c_diff_all_1 := fn_ok (cs := []) (an := []) (fn := Tryz.f116) tOk conNil (by rfl) Tryz.func116 (by kernel_rfl) (fun _ _ => by rfl) (fun _ => by kernel_rfl) (by kernel_rfl) (fun x => by kernel_rfl)
noncomputable def c_diff_all_2 : Con Tt := ⟨117, (sh [(.agg (sh [.str, .i64, .i64, .i64, .i64, .i64, .i64, (.sl 1), .str, .i64, (.sl 3)])), (.agg (sh [.str, .i64, .i64, .i64, .i64, .i64, .i64, (.sl 1), .str, .i64, (.sl 3)]))]), (sh [.bool]), 1, [], [], fun x => diff_all_2 x.1.1 x.1.2.1 x.1.2.2.1 x.1.2.2.2.1 x.1.2.2.2.2.1 x.1.2.2.2.2.2.1 x.1.2.2.2.2.2.2.1 x.1.2.2.2.2.2.2.2.1 x.1.2.2.2.2.2.2.2.2.1 x.1.2.2.2.2.2.2.2.2.2.1 x.1.2.2.2.2.2.2.2.2.2.2 x.2.1 x.2.2.1 x.2.2.2.1 x.2.2.2.2.1 x.2.2.2.2.2.1 x.2.2.2.2.2.2.1 x.2.2.2.2.2.2.2.1 x.2.2.2.2.2.2.2.2.1 x.2.2.2.2.2.2.2.2.2.1 x.2.2.2.2.2.2.2.2.2.2.1 x.2.2.2.2.2.2.2.2.2.2.2⟩
theorem diff_all_2_ok : ConOk Tryz.prog tbl c_diff_all_2 := fn_ok (cs := []) (an := []) (fn := Tryz.f117) tOk conNil (by rfl) Tryz.func117 (by kernel_rfl) (fun _ _ => by rfl) (fun _ => by kernel_rfl) (by kernel_rfl) (fun x => by kernel_rfl)
noncomputable def c_diff_all_3 : Con Tt := ⟨118, (sh [(.agg (sh [.str, .i64, .i64, .i64, .i64, .i64, .i64, (.sl 1), .str, .i64, (.sl 3)])), (.agg (sh [.str, .i64, .i64, .i64, .i64, .i64, .i64, (.sl 1), .str, .i64, (.sl 3)]))]), (sh [.bool]), 1, [], [], fun x => diff_all_3 x.1.1 x.1.2.1 x.1.2.2.1 x.1.2.2.2.1 x.1.2.2.2.2.1 x.1.2.2.2.2.2.1 x.1.2.2.2.2.2.2.1 x.1.2.2.2.2.2.2.2.1 x.1.2.2.2.2.2.2.2.2.1 x.1.2.2.2.2.2.2.2.2.2.1 x.1.2.2.2.2.2.2.2.2.2.2 x.2.1 x.2.2.1 x.2.2.2.1 x.2.2.2.2.1 x.2.2.2.2.2.1 x.2.2.2.2.2.2.1 x.2.2.2.2.2.2.2.1 x.2.2.2.2.2.2.2.2.1 x.2.2.2.2.2.2.2.2.2.1 x.2.2.2.2.2.2.2.2.2.2.1 x.2.2.2.2.2.2.2.2.2.2.2⟩
theorem diff_all_3_ok : ConOk Tryz.prog tbl c_diff_all_3 := fn_ok (cs := []) (an := []) (fn := Tryz.f118) tOk conNil (by rfl) Tryz.func118 (by kernel_rfl) (fun _ _ => by rfl) (fun _ => by kernel_rfl) (by kernel_rfl) (fun x => by kernel_rfl)
noncomputable def c_diff_all_4 : Con Tt := ⟨119, (sh [(.agg (sh [.str, .i64, .i64, .i64, .i64, .i64, .i64, (.sl 1), .str, .i64, (.sl 3)])), (.agg (sh [.str, .i64, .i64, .i64, .i64, .i64, .i64, (.sl 1), .str, .i64, (.sl 3)]))]), (sh [.bool]), 1, [], [], fun x => diff_all_4 x.1.1 x.1.2.1 x.1.2.2.1 x.1.2.2.2.1 x.1.2.2.2.2.1 x.1.2.2.2.2.2.1 x.1.2.2.2.2.2.2.1 x.1.2.2.2.2.2.2.2.1 x.1.2.2.2.2.2.2.2.2.1 x.1.2.2.2.2.2.2.2.2.2.1 x.1.2.2.2.2.2.2.2.2.2.2 x.2.1 x.2.2.1 x.2.2.2.1 x.2.2.2.2.1 x.2.2.2.2.2.1 x.2.2.2.2.2.2.1 x.2.2.2.2.2.2.2.1 x.2.2.2.2.2.2.2.2.1 x.2.2.2.2.2.2.2.2.2.1 x.2.2.2.2.2.2.2.2.2.2.1 x.2.2.2.2.2.2.2.2.2.2.2⟩
theorem diff_all_4_ok : ConOk Tryz.prog tbl c_diff_all_4 := fn_ok (cs := []) (an := []) (fn := Tryz.f119) tOk conNil (by rfl) Tryz.func119 (by kernel_rfl) (fun _ _ => by rfl) (fun _ => by kernel_rfl) (by kernel_rfl) (fun x => by kernel_rfl)
noncomputable def c_diff_all_5 : Con Tt := ⟨120, (sh [(.agg (sh [.str, .i64, .i64, .i64, .i64, .i64, .i64, (.sl 1), .str, .i64, (.sl 3)])), (.agg (sh [.str, .i64, .i64, .i64, .i64, .i64, .i64, (.sl 1), .str, .i64, (.sl 3)]))]), (sh [.bool]), 1, [], [], fun x => diff_all_5 x.1.1 x.1.2.1 x.1.2.2.1 x.1.2.2.2.1 x.1.2.2.2.2.1 x.1.2.2.2.2.2.1 x.1.2.2.2.2.2.2.1 x.1.2.2.2.2.2.2.2.1 x.1.2.2.2.2.2.2.2.2.1 x.1.2.2.2.2.2.2.2.2.2.1 x.1.2.2.2.2.2.2.2.2.2.2 x.2.1 x.2.2.1 x.2.2.2.1 x.2.2.2.2.1 x.2.2.2.2.2.1 x.2.2.2.2.2.2.1 x.2.2.2.2.2.2.2.1 x.2.2.2.2.2.2.2.2.1 x.2.2.2.2.2.2.2.2.2.1 x.2.2.2.2.2.2.2.2.2.2.1 x.2.2.2.2.2.2.2.2.2.2.2⟩
theorem diff_all_5_ok : ConOk Tryz.prog tbl c_diff_all_5 := fn_ok (cs := []) (an := []) (fn := Tryz.f120) tOk conNil (by rfl) Tryz.func120 (by kernel_rfl) (fun _ _ => by rfl) (fun _ => by kernel_rfl) (by kernel_rfl) (fun x => by kernel_rfl)
noncomputable def c_diff_all_6 : Con Tt := ⟨121, (sh [(.agg (sh [.str, .i64, .i64, .i64, .i64, .i64, .i64, (.sl 1), .str, .i64, (.sl 3)])), (.agg (sh [.str, .i64, .i64, .i64, .i64, .i64, .i64, (.sl 1), .str, .i64, (.sl 3)]))]), (sh [.bool]), 1, [], [], fun x => diff_all_6 x.1.1 x.1.2.1 x.1.2.2.1 x.1.2.2.2.1 x.1.2.2.2.2.1 x.1.2.2.2.2.2.1 x.1.2.2.2.2.2.2.1 x.1.2.2.2.2.2.2.2.1 x.1.2.2.2.2.2.2.2.2.1 x.1.2.2.2.2.2.2.2.2.2.1 x.1.2.2.2.2.2.2.2.2.2.2 x.2.1 x.2.2.1 x.2.2.2.1 x.2.2.2.2.1 x.2.2.2.2.2.1 x.2.2.2.2.2.2.1 x.2.2.2.2.2.2.2.1 x.2.2.2.2.2.2.2.2.1 x.2.2.2.2.2.2.2.2.2.1 x.2.2.2.2.2.2.2.2.2.2.1 x.2.2.2.2.2.2.2.2.2.2.2⟩
theorem diff_all_6_ok : ConOk Tryz.prog tbl c_diff_all_6 := fn_ok (cs := []) (an := []) (fn := Tryz.f121) tOk conNil (by rfl) Tryz.func121 (by kernel_rfl) (fun _ _ => by rfl) (fun _ => by kernel_rfl) (by kernel_rfl) (fun x => by kernel_rfl)
noncomputable def c_diff_all_7 : Con Tt := ⟨122, (sh [(.agg (sh [.str, .i64, .i64, .i64, .i64, .i64, .i64, (.sl 1), .str, .i64, (.sl 3)])), (.agg (sh [.str, .i64, .i64, .i64, .i64, .i64, .i64, (.sl 1), .str, .i64, (.sl 3)]))]), (sh [.bool]), 1, [], [], fun x => diff_all_7 x.1.1 x.1.2.1 x.1.2.2.1 x.1.2.2.2.1 x.1.2.2.2.2.1 x.1.2.2.2.2.2.1 x.1.2.2.2.2.2.2.1 x.1.2.2.2.2.2.2.2.1 x.1.2.2.2.2.2.2.2.2.1 x.1.2.2.2.2.2.2.2.2.2.1 x.1.2.2.2.2.2.2.2.2.2.2 x.2.1 x.2.2.1 x.2.2.2.1 x.2.2.2.2.1 x.2.2.2.2.2.1 x.2.2.2.2.2.2.1 x.2.2.2.2.2.2.2.1 x.2.2.2.2.2.2.2.2.1 x.2.2.2.2.2.2.2.2.2.1 x.2.2.2.2.2.2.2.2.2.2.1 x.2.2.2.2.2.2.2.2.2.2.2⟩
theorem diff_all_7_ok : ConOk Tryz.prog tbl c_diff_all_7 := fn_ok (cs := []) (an := []) (fn := Tryz.f122) tOk conNil (by rfl) Tryz.func122 (by kernel_rfl) (fun _ _ => by rfl) (fun _ => by kernel_rfl) (by kernel_rfl) (fun x => by kernel_rfl)
noncomputable def c_diff_all_8 : Con Tt := ⟨123, (sh [(.agg (sh [.str, .i64, .i64, .i64, .i64, .i64, .i64, (.sl 1), .str, .i64, (.sl 3)])), (.agg (sh [.str, .i64, .i64, .i64, .i64, .i64, .i64, (.sl 1), .str, .i64, (.sl 3)]))]), (sh [.bool]), 1, [], [], fun x => diff_all_8 x.1.1 x.1.2.1 x.1.2.2.1 x.1.2.2.2.1 x.1.2.2.2.2.1 x.1.2.2.2.2.2.1 x.1.2.2.2.2.2.2.1 x.1.2.2.2.2.2.2.2.1 x.1.2.2.2.2.2.2.2.2.1 x.1.2.2.2.2.2.2.2.2.2.1 x.1.2.2.2.2.2.2.2.2.2.2 x.2.1 x.2.2.1 x.2.2.2.1 x.2.2.2.2.1 x.2.2.2.2.2.1 x.2.2.2.2.2.2.1 x.2.2.2.2.2.2.2.1 x.2.2.2.2.2.2.2.2.1 x.2.2.2.2.2.2.2.2.2.1 x.2.2.2.2.2.2.2.2.2.2.1 x.2.2.2.2.2.2.2.2.2.2.2⟩
theorem diff_all_8_ok : ConOk Tryz.prog tbl c_diff_all_8 := fn_ok (cs := [c_bytes_Equal]) (an := []) (fn := Tryz.f123) tOk (conCons bytes_Equal_ok conNil) (by rfl) Tryz.func123 (by kernel_rfl) (fun _ _ => by rfl) (fun _ => by kernel_rfl) (by kernel_rfl) (fun x => by kernel_rfl)
noncomputable def c_diff_all_9 : Con Tt := ⟨125, (sh [(.agg (sh [.str, .i64, .i64, .i64, .i64, .i64, .i64, (.sl 1), .str, .i64, (.sl 3)])), (.agg (sh [.str, .i64, .i64, .i64, .i64, .i64, .i64, (.sl 1), .str, .i64, (.sl 3)]))]), (sh [.bool]), 1, [], [], fun x => diff_all_9 x.1.1 x.1.2.1 x.1.2.2.1 x.1.2.2.2.1 x.1.2.2.2.2.1 x.1.2.2.2.2.2.1 x.1.2.2.2.2.2.2.1 x.1.2.2.2.2.2.2.2.1 x.1.2.2.2.2.2.2.2.2.1 x.1.2.2.2.2.2.2.2.2.2.1 x.1.2.2.2.2.2.2.2.2.2.2 x.2.1 x.2.2.1 x.2.2.2.1 x.2.2.2.2.1 x.2.2.2.2.2.1 x.2.2.2.2.2.2.1 x.2.2.2.2.2.2.2.1 x.2.2.2.2.2.2.2.2.1 x.2.2.2.2.2.2.2.2.2.1 x.2.2.2.2.2.2.2.2.2.2.1 x.2.2.2.2.2.2.2.2.2.2.2⟩
theorem diff_all_9_ok : ConOk Tryz.prog tbl c_diff_all_9 := fn_ok (cs := []) (an := []) (fn := Tryz.f125) tOk conNil (by rfl) Tryz.func125 (by kernel_rfl) (fun _ _ => by rfl) (fun _ => by kernel_rfl) (by kernel_rfl) (fun x => by kernel_rfl)
noncomputable def c_diff_all_10 : Con Tt := ⟨126, (sh [(.agg (sh [.str, .i64, .i64, .i64, .i64, .i64, .i64, (.sl 1), .str, .i64, (.sl 3)])), (.agg (sh [.str, .i64, .i64, .i64, .i64, .i64, .i64, (.sl 1), .str, .i64, (.sl 3)]))]), (sh [.bool]), 1, [], [], fun x => diff_all_10 x.1.1 x.1.2.1 x.1.2.2.1 x.1.2.2.2.1 x.1.2.2.2.2.1 x.1.2.2.2.2.2.1 x.1.2.2.2.2.2.2.1 x.1.2.2.2.2.2.2.2.1 x.1.2.2.2.2.2.2.2.2.1 x.1.2.2.2.2.2.2.2.2.2.1 x.1.2.2.2.2.2.2.2.2.2.2 x.2.1 x.2.2.1 x.2.2.2.1 x.2.2.2.2.1 x.2.2.2.2.2.1 x.2.2.2.2.2.2.1 x.2.2.2.2.2.2.2.1 x.2.2.2.2.2.2.2.2.1 x.2.2.2.2.2.2.2.2.2.1 x.2.2.2.2.2.2.2.2.2.2.1 x.2.2.2.2.2.2.2.2.2.2.2⟩
theorem diff_all_10_ok : ConOk Tryz.prog tbl c_diff_all_10 := fn_ok (cs := []) (an := []) (fn := Tryz.f126) tOk conNil (by rfl) Tryz.func126 (by kernel_rfl) (fun _ _ => by rfl) (fun _ => by kernel_rfl) (by kernel_rfl) (fun x => by kernel_rfl)
noncomputable def c_diff_attrs_1 : Con Tt := ⟨176, (sh [(.agg (sh [.str, (.sl 1)])), (.agg (sh [.str, (.sl 1)]))]), (sh [.bool]), 1, [], [], fun x => diff_attrs_1 x.1.1 x.1.2 x.2.1 x.2.2⟩
theorem diff_attrs_1_ok : ConOk Tryz.prog tbl c_diff_attrs_1 := fn_ok (cs := [c_bytes_Equal]) (an := []) (fn := Tryz.f176) tOk (conCons bytes_Equal_ok conNil) (by rfl) Tryz.func176 (by kernel_rfl) (fun _ _ => by rfl) (fun _ => by kernel_rfl) (by kernel_rfl) (fun x => by kernel_rfl)
noncomputable def c_slices_EqualFunc_Attr_2 : Con Tt := ⟨170, (sh [(.sl 3), (.sl 3), (.fn 176 0 (sh []))]), (sh [.bool]), 1, [], [], fun x => slices_EqualFunc_Attr_2 x.1 x.2.1⟩
theorem slices_EqualFunc_Attr_2_ok : ConOk Tryz.prog tbl c_slices_EqualFunc_Attr_2 := fn_ok (cs := [c_diff_attrs_1]) (an := [([1, 1, 0, 1, 0], .loop 0 ⟨[17], [], (sh [.i64]), [1, 2, 15, 16], []⟩ ⟨[], [], (sh []), [], []⟩)]) (fn := Tryz.f170) tOk (conCons diff_attrs_1_ok conNil) (by rfl) Tryz.func170 (by kernel_rfl) (fun _ _ => by rfl) (fun _ => by kernel_rfl) (by kernel_rfl) (fun x => by kernel_rfl)
noncomputable def c_diff_attrs : Con Tt := ⟨128, (sh [(.sl 3), (.sl 3)]), (sh [.bool]), 1, [], [], fun x => diff_attrs x.1 x.2⟩
theorem diff_attrs_ok : ConOk Tryz.prog tbl c_diff_attrs := fn_ok (cs := [c_slices_EqualFunc_Attr_2]) (an := []) (fn := Tryz.f128) tOk (conCons slices_EqualFunc_Attr_2_ok conNil) (by rfl) Tryz.func128 (by kernel_rfl) (fun _ _ => by rfl) (fun _ => by kernel_rfl) (by kernel_rfl) (fun x => by kernel_rfl)
noncomputable def c_diff_all_11 : Con Tt := ⟨127, (sh [(.agg (sh [.str, .i64, .i64, .i64, .i64, .i64, .i64, (.sl 1), .str, .i64, (.sl 3)])), (.agg (sh [.str, .i64, .i64, .i64, .i64, .i64, .i64, (.sl 1), .str, .i64, (.sl 3)]))]), (sh [.bool]), 1, [], [], fun x => diff_all_11 x.1.1 x.1.2.1 x.1.2.2.1 x.1.2.2.2.1 x.1.2.2.2.2.1 x.1.2.2.2.2.2.1 x.1.2.2.2.2.2.2.1 x.1.2.2.2.2.2.2.2.1 x.1.2.2.2.2.2.2.2.2.1 x.1.2.2.2.2.2.2.2.2.2.1 x.1.2.2.2.2.2.2.2.2.2.2 x.2.1 x.2.2.1 x.2.2.2.1 x.2.2.2.2.1 x.2.2.2.2.2.1 x.2.2.2.2.2.2.1 x.2.2.2.2.2.2.2.1 x.2.2.2.2.2.2.2.2.1 x.2.2.2.2.2.2.2.2.2.1 x.2.2.2.2.2.2.2.2.2.2.1 x.2.2.2.2.2.2.2.2.2.2.2⟩
theorem diff_all_11_ok : ConOk Tryz.prog tbl c_diff_all_11 := fn_ok (cs := [c_diff_attrs]) (an := []) (fn := Tryz.f127) tOk (conCons diff_attrs_ok conNil) (by rfl) Tryz.func127 (by kernel_rfl) (fun _ _ => by rfl) (fun _ => by kernel_rfl) (by kernel_rfl) (fun x => by kernel_rfl)
noncomputable def c_diff_Fields : Con Tt := ⟨23, (sh [(.agg (sh [.str, .i64, .i64, .i64, .i64, .i64, .i64, (.sl 1), .str, .i64, (.sl 3)])), (.agg (sh [.str, .i64, .i64, .i64, .i64, .i64, .i64, (.sl 1), .str, .i64, (.sl 3)]))]), (sh [(.row 4 9)]), 1, [], [], fun x => diff_Fields x.1.1 x.1.2.1 x.1.2.2.1 x.1.2.2.2.1 x.1.2.2.2.2.1 x.1.2.2.2.2.2.1 x.1.2.2.2.2.2.2.1 x.1.2.2.2.2.2.2.2.1 x.1.2.2.2.2.2.2.2.2.1 x.1.2.2.2.2.2.2.2.2.2.1 x.1.2.2.2.2.2.2.2.2.2.2 x.2.1 x.2.2.1 x.2.2.2.1 x.2.2.2.2.1 x.2.2.2.2.2.1 x.2.2.2.2.2.2.1 x.2.2.2.2.2.2.2.1 x.2.2.2.2.2.2.2.2.1 x.2.2.2.2.2.2.2.2.2.1 x.2.2.2.2.2.2.2.2.2.2.1 x.2.2.2.2.2.2.2.2.2.2.2⟩
end Go.Proofs.YtkleajhiihbefaaGreatDoor.F
set_option linter.unusedVariables false
set_option linter.unusedSimpArgs false
set_option linter.unusedSectionVars false
namespace Go.Proofs.YtkleajhiihbefaaGreatDoor.F
open Go Go.RowKit Go.Proofs.YtkleajhiihbefaaGreatDoor Go.Proofs.YtkleajhiihbefaaGreatDoor.K
set_option maxRecDepth 100000
def tabF : List (List UInt8 × Nat) := [([80, 97, 116, 104], 116), ([75, 105, 110, 100], 117), ([77, 111, 100, 101], 118), ([85, 105, 100], 119), ([71, 105, 100], 120), ([84, 105, 109, 101], 121), ([83, 105, 122, 101], 122), ([68, 97, 116, 97], 123), ([84, 97, 114, 103, 101, 116], 125), ([68, 101, 118], 126), ([65, 116, 116, 114, 115], 127)]
def cellsF : List Value := [.string ⟨([80, 97, 116, 104] : List UInt8).toArray⟩, .func (.func 116) #[] #[], .string ⟨([75, 105, 110, 100] : List UInt8).toArray⟩, .func (.func 117) #[] #[], .string ⟨([77, 111, 100, 101] : List UInt8).toArray⟩, .func (.func 118) #[] #[], .string ⟨([85, 105, 100] : List UInt8).toArray⟩, .func (.func 119) #[] #[], .string ⟨([71, 105, 100] : List UInt8).toArray⟩, .func (.func 120) #[] #[], .string ⟨([84, 105, 109, 101] : List UInt8).toArray⟩, .func (.func 121) #[] #[], .string ⟨([83, 105, 122, 101] : List UInt8).toArray⟩, .func (.func 122) #[] #[], .string ⟨([68, 97, 116, 97] : List UInt8).toArray⟩, .func (.func 123) #[] #[], .string ⟨([84, 97, 114, 103, 101, 116] : List UInt8).toArray⟩, .func (.func 125) #[] #[], .string ⟨([68, 101, 118] : List UInt8).toArray⟩, .func (.func 126) #[] #[], .string ⟨([65, 116, 116, 114, 115] : List UInt8).toArray⟩, .func (.func 127) #[] #[]]
def fltF (bs : List Bool) : List (List UInt8) := (tabF.zip bs).filterMap fun p => cond p.2 none (some p.1.1)
theorem diff_all_c {m : Mem} {w : World} (hm : Has m w) : Calls Tryz.prog 67 #[] w fun e w' => ∃ v, e = .returned v ∧ ∃ g m', v = .slice (some ⟨g, 0, none⟩) 11 11 ∧ m' g = some (.cells cellsF.toArray 113 (0, 0)) ∧ St w noF m m' [] w' := by
 have H := St.start0 hm
 refine callsR Tryz.func67 (by kernel_rfl) (by kernel_rfl) ?_
 refine seg 17 [.op [1, 0] 11, .co [1, 1]] [(1, .agg #[.string ⟨([80, 97, 116, 104] : List UInt8).toArray⟩, .func (.func 116) #[] #[]]), (2, .agg #[.string ⟨([75, 105, 110, 100] : List UInt8).toArray⟩, .func (.func 117) #[] #[]]), (3, .agg #[.string ⟨([77, 111, 100, 101] : List UInt8).toArray⟩, .func (.func 118) #[] #[]]), (4, .agg #[.string ⟨([85, 105, 100] : List UInt8).toArray⟩, .func (.func 119) #[] #[]]), (5, .agg #[.string ⟨([71, 105, 100] : List UInt8).toArray⟩, .func (.func 120) #[] #[]]), (6, .agg #[.string ⟨([84, 105, 109, 101] : List UInt8).toArray⟩, .func (.func 121) #[] #[]]), (7, .agg #[.string ⟨([83, 105, 122, 101] : List UInt8).toArray⟩, .func (.func 122) #[] #[]]), (8, .agg #[.string ⟨([68, 97, 116, 97] : List UInt8).toArray⟩, .func (.func 123) #[] #[]]), (9, .agg #[.string ⟨([84, 97, 114, 103, 101, 116] : List UInt8).toArray⟩, .func (.func 125) #[] #[]]), (10, .agg #[.string ⟨([68, 101, 118] : List UInt8).toArray⟩, .func (.func 126) #[] #[]]), (11, .agg #[.string ⟨([65, 116, 116, 114, 115] : List UInt8).toArray⟩, .func (.func 127) #[] #[]])] (by kernel_rfl) ?_
 refine st (newS (some 12) (fun g => .slice (some ⟨g, 0, none⟩) 11 11) cellsF 113 H (by kernel_rfl) ?_)
 intro g w1 H
 obtain ⟨m1, hs, hg, H⟩ := H.fixB 0 rfl
 refine seg 2 [.co [1, 1]] [(0, .slice (some ⟨g, 0, none⟩) 11 11)] (by kernel_rfl) ?_
 refine retR [0] [.slice (some ⟨g, 0, none⟩) 11 11] (by kernel_rfl) (by kernel_rfl) (by kernel_rfl) ?_
 exact ⟨_, rfl, g, m1, rfl, hg, H⟩
theorem tab_at : ∀ (i : Nat) (q : List UInt8 × Nat), tabF[i]? = some q → cellsF[i * 2]? = some (.string ⟨q.1.toArray⟩) ∧ cellsF[i * 2 + 1]? = some (.func (.func q.2) #[] #[]) ∧ q.1.length ≤ 9223372036854775807
 | 0, _, h | 1, _, h | 2, _, h | 3, _, h | 4, _, h | 5, _, h | 6, _, h | 7, _, h | 8, _, h | 9, _, h | 10, _, h => by cases h; exact ⟨rfl, rfl, Nat.le_of_ble_eq_true rfl⟩
 | n + 11, _, h => by cases h
theorem diff_Fields_c {m : Mem} {w : World} (hm : Has m w) (u1 u2 : List Value) (h1 : u1.length = 11) (h2 : u2.length = 11) (bs : List Bool) (hb : bs.length = 11)
  (hcall : ∀ (j : Nat) (q : List UInt8 × Nat) (b : Bool), tabF[j]? = some q → bs[j]? = some b → (∀ args w, (callFunc q.2 args).run Tryz.prog w = .ok (.enter q.2 args) w) ∧ ∀ (m1 : Mem) (w1 : World), Sub m m1 → Has m1 w1 → Calls Tryz.prog q.2 #[.agg u1.toArray, .agg u2.toArray] w1 fun e w' => ∃ v, e = .returned v ∧ v = .bool b ∧ Ex w1 w') :
  Calls Tryz.prog 23 #[.agg u1.toArray, .agg u2.toArray] w fun e w' => ∃ v, e = .returned v ∧ ∃ A c m', v = .slice A (fltF bs).length c ∧ St w noF m m' [rowI rStr 9 A c (fltF bs)] w' := by
 have H := St.start0 hm
 refine callsR Tryz.func23 (by kernel_rfl) (by kernel_rfl) ?_
 refine seg 2 [.op [0] 0, .co [1]] [(0, .agg u1.toArray), (1, .agg u2.toArray)] (by kernel_rfl) ?_
 refine st (newS (some 2) (fun g => .pointer (some ⟨g, 0, none⟩)) u1 40 H (by kernel_rfl) ?_)
 intro g1 w1 H
 refine st (newS (some 3) (fun g => .pointer (some ⟨g, 0, none⟩)) u2 40 H (by kernel_rfl) ?_)
 intro g2 w2 H
 refine seg 9 [.op [1, 1, 0, 0] 0, .co [1, 1, 0, 1], .co [1, 1, 1]] [(2, .pointer (some ⟨g1, 0, none⟩)), (3, .pointer (some ⟨g2, 0, none⟩)), (5, .slice none 0 0)] (by kernel_rfl) ?_
 refine st (callR (some 8) 67 #[] Tryz.call67 (diff_all_c H.has) (by kernel_rfl) ?_)
 rintro _ w3 ⟨ga, ma, rfl, hga, hS⟩
 have hsa := hS.sub
 have H := H.call0 hS
 refine seg 4 [.co [1, 1, 0, 1, 0], .bl 0, .co [1, 1, 1]] [(2, .pointer (some ⟨g1, 0, none⟩)), (3, .pointer (some ⟨g2, 0, none⟩)), (5, .slice none 0 0), (8, .slice (some ⟨ga, 0, none⟩) 11 11), (9, .int .i64 11), (10, .int .i64 0)] (by kernel_rfl) ?_
 have H := H.nilR rStr 9
 have htl : tabF.length = 11 := rfl
 refine loopR 0 (fun (x : Nat × (List (List UInt8)) × Option Addr × Nat) => [(2, .pointer (some ⟨g1, 0, none⟩)), (3, .pointer (some ⟨g2, 0, none⟩)), (5, .slice (x.2.2.1) x.2.1.length (x.2.2.2)), (8, .slice (some ⟨ga, 0, none⟩) 11 11), (9, .int .i64 11), (10, .int .i64 (x.1 : Int))])
  (fun (x : Nat × (List (List UInt8)) × Option Addr × Nat) (w' : World) => x.1 ≤ 11 ∧ x.2.1 = ((tabF.zip bs).take x.1).filterMap (fun p => cond p.2 none (some p.1.1)) ∧ St w noF m ma [rowI rStr 9 (x.2.2.1) (x.2.2.2) x.2.1, blkI g2 u2 40, blkI g1 u1 40] w')
  (fun (x : Nat × (List (List UInt8)) × Option Addr × Nat) => 11 - x.1) (0, [], none, 0) (by kernel_rfl) (by kernel_rfl) (by kernel_rfl) ?_ ?_
 ·exact ⟨Nat.zero_le _, rfl, H⟩
 rintro ⟨i, O, A, c⟩ w4 ⟨hi, hO, H⟩
 dsimp only at hi hO H ⊢
 refine seg 5 [.co [1, 1, 0, 1, 0, 0, 1, 0], .co [1, 1, 0, 1, 0, 0, 1, 1], .le 0, .bl 0, .co [1, 1, 1]] [(2, .pointer (some ⟨g1, 0, none⟩)), (3, .pointer (some ⟨g2, 0, none⟩)), (5, .slice A O.length c), (8, .slice (some ⟨ga, 0, none⟩) 11 11), (9, .int .i64 11), (10, .int .i64 (i : Int)), (11, .bool (decide ((i : Int) < 11)))] (by kernel_rfl) ?_
 by_cases hlt : i < 11
 rotate_left
 ·rw [show decide ((i : Int) < 11) = false from decide_eq_false (by omega)]
  refine seg 7 [.co [1, 1, 1, 1]] [(4, .slice A O.length c)] (by kernel_rfl) ?_
  refine retR [4] [.slice A O.length c] (by kernel_rfl) (by kernel_rfl) (by kernel_rfl) ?_
  have hO : O = fltF bs := by
   rw [hO, List.take_of_length_le (by rw [List.length_zip, htl, hb]; omega)]
   rfl
  subst hO
  exact ⟨_, rfl, A, c, ma, rfl, (H.drop 2 rfl).drop 1 rfl⟩
 rw [show decide ((i : Int) < 11) = true from decide_eq_true (by omega)]
 obtain ⟨q, hq⟩ : ∃ q, tabF[i]? = some q := ⟨_, List.getElem?_eq_getElem (by rw [htl]; exact hlt)⟩
 obtain ⟨b, hbi⟩ : ∃ b, bs[i]? = some b := ⟨_, List.getElem?_eq_getElem (by omega)⟩
 obtain ⟨t1, t2, t3⟩ := tab_at i q hq
 obtain ⟨hc1, hc2⟩ := hcall i q b hq hbi
 have hz : (tabF.zip bs)[i]? = some (q, b) := List.getElem?_zip_eq_some.2 ⟨hq, hbi⟩
 have hnx : ((tabF.zip bs).take (i + 1)).filterMap (fun p => cond p.2 none (some p.1.1)) = O ++ cond b [] [q.1] := by
  rw [List.take_add_one, hz, hO, List.filterMap_append]
  cases b <;> rfl
 refine seg 6 [.op [1, 1, 0, 1, 0, 0, 1, 1, 0, 0, 0] 0, .co [1, 1, 0, 1, 0, 0, 1, 1, 0, 0, 1], .bl 1, .co [1, 1, 0, 1, 0, 0, 1, 1, 1], .le 0, .bl 0, .co [1, 1, 1]] [(2, .pointer (some ⟨g1, 0, none⟩)), (3, .pointer (some ⟨g2, 0, none⟩)), (5, .slice A O.length c), (8, .slice (some ⟨ga, 0, none⟩) 11 11), (9, .int .i64 11), (10, .int .i64 (i : Int))] (by kernel_rfl) ?_
 refine st (idxS (some 12) 110 113 2 (some ⟨ga, 0, none⟩) ⟨ga, 0, none⟩ 11 11 .i64 (i : Int) rfl (by kernel_rfl) (by kernel_rfl) (by omega) (by omega) ?_)
 rw [Int.toNat_natCast]
 have hcell : ∀ (j : Nat) (v : Value), ([.string ⟨q.1.toArray⟩, .func (.func q.2) #[] #[]] : List Value)[j]? = some v → mc ma (((⟨ga, 0, none⟩ : Addr).add (i * 2)).add j) = some v := fun j v hj => by
  rw [Addr.add_lit, Addr.add_lit, Nat.zero_add]
  match j, hj with
  | 0, hj => cases hj; exact mc_blk hga t1
  | 1, hj => cases hj; exact mc_blk hga t2
  | k + 2, hj => simp at hj
 refine st (ldAggR (some 13) 113 ((⟨ga, 0, none⟩ : Addr).add (i * 2)) [.string ⟨q.1.toArray⟩, .func (.func q.2) #[] #[]] (by kernel_rfl) (by kernel_rfl) (fun j v hj => H.cellI (hcell j v hj)) ?_)
 refine st (newS (some 7) (fun g => .pointer (some ⟨g, 0, none⟩)) [.string ⟨([] : List UInt8).toArray⟩, .nilFunc] 113 H (by kernel_rfl) ?_)
 intro g3 w5 H
 refine st (stAggS none 113 0 g3 0 [.string ⟨q.1.toArray⟩, .func (.func q.2) #[] #[]] [.string ⟨([] : List UInt8).toArray⟩, .nilFunc] [.string ⟨q.1.toArray⟩, .func (.func q.2) #[] #[]] 113 H rfl (by kernel_rfl) (by kernel_rfl) (by rfl) (of_decide_eq_true rfl) rfl ?_)
 intro w6 H
 replace H : St w noF m ma [blkI g3 [.string ⟨q.1.toArray⟩, .func (.func q.2) #[] #[]] 113, rowI rStr 9 A c O, blkI g2 u2 40, blkI g1 u1 40] w6 := H
 refine seg 4 [.op [1, 1, 0, 1, 0, 0, 1, 1, 0, 0, 1, 0] 1, .co [1, 1, 0, 1, 0, 0, 1, 1, 0, 0, 1, 1], .bl 1, .co [1, 1, 0, 1, 0, 0, 1, 1, 1], .le 0, .bl 0, .co [1, 1, 1]] [(2, .pointer (some ⟨g1, 0, none⟩)), (3, .pointer (some ⟨g2, 0, none⟩)), (5, .slice A O.length c), (8, .slice (some ⟨ga, 0, none⟩) 11 11), (9, .int .i64 11), (10, .int .i64 (i : Int)), (7, .pointer (some ⟨g3, 0, none⟩)), (14, .pointer (some ⟨g3, 1, none⟩))] (by kernel_rfl) ?_
 refine st (ldR (some 15) 45 ⟨g3, 1, none⟩ (.func (.func q.2) #[] #[]) (by kernel_rfl) (by kernel_rfl) (H.cellB 0 rfl rfl) ?_)
 refine st (ldAggR (some 16) 40 ⟨g1, 0, none⟩ u1 (by kernel_rfl) (by rw [h1]; kernel_rfl) (H.cellsB 3 rfl (by rw [List.drop_zero, List.take_length])) ?_)
 refine st (ldAggR (some 17) 40 ⟨g2, 0, none⟩ u2 (by kernel_rfl) (by rw [h2]; kernel_rfl) (H.cellsB 2 rfl (by rw [List.drop_zero, List.take_length])) ?_)
 refine st (callR (some 18) q.2 #[.agg u1.toArray, .agg u2.toArray] hc1 (hc2 ma _ hsa H.has) (by kernel_rfl) ?_)
 rintro _ w7 ⟨rfl, hx7⟩
 replace H := H.ex hx7
 refine seg 2 [.co [1, 1, 0, 1, 0, 0, 1, 1, 0, 0, 1, 1], .bl 1, .co [1, 1, 0, 1, 0, 0, 1, 1, 1], .le 0, .bl 0, .co [1, 1, 1]] [(2, .pointer (some ⟨g1, 0, none⟩)), (3, .pointer (some ⟨g2, 0, none⟩)), (5, .slice A O.length c), (8, .slice (some ⟨ga, 0, none⟩) 11 11), (9, .int .i64 11), (10, .int .i64 (i : Int)), (7, .pointer (some ⟨g3, 0, none⟩)), (19, .bool (!b))] (by kernel_rfl) ?_
 have hw1 : IntKind.i64.wrap ((i : Int) + 1) = ((i + 1 : Nat) : Int) := wI ⟨by omega, by omega⟩
 cases b with
 | true =>
  refine seg 7 [.le 0, .bl 0, .co [1, 1, 1]] [(2, .pointer (some ⟨g1, 0, none⟩)), (3, .pointer (some ⟨g2, 0, none⟩)), (5, .slice A O.length c), (8, .slice (some ⟨ga, 0, none⟩) 11 11), (9, .int .i64 11), (10, .int .i64 (IntKind.i64.wrap ((i : Int) + 1)))] (by kernel_rfl) ?_
  rw [hw1]
  refine leR (i + 1, O, A, c) ?_ ⟨hlt, ?_, H.drop 0 rfl⟩ (by kernel_rfl)
  ·show 11 - (i + 1) < 11 - i
   omega
  ·show O = _
   rw [hnx]
   simp
 | false =>
  refine seg 4 [.op [1, 1, 0, 1, 0, 0, 1, 1, 0, 0, 1, 1, 0] 2, .bl 1, .co [1, 1, 0, 1, 0, 0, 1, 1, 1], .le 0, .bl 0, .co [1, 1, 1]] [(2, .pointer (some ⟨g1, 0, none⟩)), (3, .pointer (some ⟨g2, 0, none⟩)), (8, .slice (some ⟨ga, 0, none⟩) 11 11), (9, .int .i64 11), (10, .int .i64 (i : Int)), (20, .slice A O.length c), (21, .pointer (some ⟨g3, 0, none⟩))] (by kernel_rfl) ?_
  refine st (ldR (some 22) 9 ⟨g3, 0, none⟩ (.string ⟨q.1.toArray⟩) (by kernel_rfl) (by kernel_rfl) (H.cellB 0 rfl rfl) ?_)
  refine st (newS (some 23) (fun g => .slice (some ⟨g, 0, none⟩) 1 1) [.string ⟨q.1.toArray⟩] 9 H (by kernel_rfl) ?_)
  intro g4 w8 H
  have hlO : O.length ≤ 11 := by
   rw [hO]
   refine Nat.le_trans (List.length_filterMap_le _ _) ?_
   rw [List.length_take]
   omega
  refine st (appS (r := rStr) (some 24) 43 9 16 (.string ⟨([] : List UInt8).toArray⟩) 43 2 A (some ⟨g4, 0, none⟩) c 1 1 O [q.1] (O ++ [q.1]) _ H rfl ⟨Tryz.underlying43, by kernel_rfl⟩ rfl (by decide) (by kernel_rfl) (Cs.of_blk (H.blk 0 rfl)) ⟨[.string ⟨q.1.toArray⟩], [], rfl, ⟨rfl, t3⟩, rfl⟩ rfl (app_ok (by simp only [List.length_cons, List.length_nil]; omega)) (by decide) (by decide) ?_)
  intro A4 c4 w9 H
  refine seg 7 [.le 0, .bl 0, .co [1, 1, 1]] [(2, .pointer (some ⟨g1, 0, none⟩)), (3, .pointer (some ⟨g2, 0, none⟩)), (5, .slice A4 (O ++ [q.1]).length c4), (8, .slice (some ⟨ga, 0, none⟩) 11 11), (9, .int .i64 11), (10, .int .i64 (IntKind.i64.wrap ((i : Int) + 1)))] (by kernel_rfl) ?_
  rw [hw1]
  refine leR (i + 1, O ++ [q.1], A4, c4) ?_ ⟨hlt, ?_, (H.drop 0 rfl).drop 0 rfl⟩ (by kernel_rfl)
  ·show 11 - (i + 1) < 11 - i
   omega
  ·show O ++ [q.1] = _
   rw [hnx]
   simp
theorem fieldsF_some : ∀ (L : List (List UInt8 × Option Bool)) {y : List (List UInt8)}, fieldsF L = some y → ∃ bs : List Bool, L.map (·.2) = bs.map some ∧ y = (L.zip bs).filterMap (fun p => cond p.2 none (some p.1.1))
 | [], y, h => by cases h; exact ⟨[], rfl, rfl⟩
 | (n, ob) :: r, y, h => by
  unfold fieldsF at h
  obtain ⟨b, h1, h⟩ := bindE h
  obtain ⟨l, h2, h⟩ := bindE h
  obtain ⟨bs, e1, e2⟩ := fieldsF_some r h2
  cases h
  have h1 : ob = some b := h1
  subst h1 e2
  refine ⟨b :: bs, by simp only [List.map_cons, e1], ?_⟩
  cases b <;> rfl
abbrev shE : E.Sh := E.sh [.str, .i64, .i64, .i64, .i64, .i64, .i64, (.sl 1), .str, .i64, (.sl 3)]
theorem diff_Fields_ok : E.ConOk Tryz.prog tbl c_diff_Fields := by
 intro st x y hy η m w F vals hr hlen has gl hs hd
 obtain ⟨⟨a0, a1, a2, a3, a4, a5, a6, a7, a8, a9, a10⟩, a11, a12, a13, a14, a15, a16, a17, a18, a19, a20, a21⟩ := x
 have hr : E.RL tbl η m [.agg [.str a0, .i64 a1, .i64 a2, .i64 a3, .i64 a4, .i64 a5, .i64 a6, .sl 1 a7, .str a8, .i64 a9, .sl 3 a10], .agg [.str a11, .i64 a12, .i64 a13, .i64 a14, .i64 a15, .i64 a16, .i64 a17, .sl 1 a18, .str a19, .i64 a20, .sl 3 a21]] vals := hr
 obtain ⟨v1, r1, rfl, ⟨u1, rfl, q1⟩, hr2⟩ := hr
 obtain ⟨v2, rfl, u2, rfl, q2⟩ := E.RL.one hr2
 have hlen : η.length = 0 := hlen
 have hη : η = [] := List.eq_nil_of_length_eq_zero hlen
 subst hη
 have hy : diff_Fields a0 a1 a2 a3 a4 a5 a6 a7 a8 a9 a10 a11 a12 a13 a14 a15 a16 a17 a18 a19 a20 a21 = some y := hy
 unfold diff_Fields at hy
 obtain ⟨bs, e1, e2⟩ := fieldsF_some _ hy
 have hbl : bs.length = 11 := by
  have := congrArg List.length e1
  simpa using this.symm
 have key : ∀ (f : Nat) (G : (E.sh [.agg shE, .agg shE]).ty Tt → Option Bool) (b : Bool), E.ConOk Tryz.prog tbl ⟨f, E.sh [.agg shE, .agg shE], E.sh [.bool], 1, [], [], G⟩ → (∀ args w, (callFunc f args).run Tryz.prog w = .ok (.enter f args) w) →
   G ((a0, a1, a2, a3, a4, a5, a6, a7, a8, a9, a10), a11, a12, a13, a14, a15, a16, a17, a18, a19, a20, a21) = some b → (∀ args w, (callFunc f args).run Tryz.prog w = .ok (.enter f args) w) ∧ ∀ (m1 : Mem) (w1 : World), Sub m m1 → Has m1 w1 → Calls Tryz.prog f #[.agg u1.toArray, .agg u2.toArray] w1 fun e w' => ∃ v, e = .returned v ∧ v = .bool b ∧ Ex w1 w' := by
  intro f G b hok hcf hG
  refine ⟨hcf, fun m1 w1 hsub hm1 => ?_⟩
  exact E.ConOk.plain hok hcf hm1 glob_of ((a0, a1, a2, a3, a4, a5, a6, a7, a8, a9, a10), a11, a12, a13, a14, a15, a16, a17, a18, a19, a20, a21) [.agg u1.toArray, .agg u2.toArray] (E.RL.mono (E.Le.refl _) hsub [.agg [.str a0, .i64 a1, .i64 a2, .i64 a3, .i64 a4, .i64 a5, .i64 a6, .sl 1 a7, .str a8, .i64 a9, .sl 3 a10], .agg [.str a11, .i64 a12, .i64 a13, .i64 a14, .i64 a15, .i64 a16, .i64 a17, .sl 1 a18, .str a19, .i64 a20, .sl 3 a21]] ⟨_, _, rfl, ⟨u1, rfl, q1⟩, _, _, rfl, ⟨u2, rfl, q2⟩, rfl⟩) rfl rfl hG [.bool b] rfl (fun η m vs h => by
   obtain ⟨v1, r1, rfl, h3, h4⟩ := h
   have h3 : v1 = _ := h3
   have h4 : r1 = [] := h4
   subst h3 h4
   rfl)
 match bs, hbl, e1, e2 with
 | [b0, b1, b2, b3, b4, b5, b6, b7, b8, b9, b10], _, e1, e2 =>
  simp only [List.map_cons, List.map_nil, List.cons.injEq, and_true] at e1
  obtain ⟨k0, k1, k2, k3, k4, k5, k6, k7, k8, k9, k10⟩ := e1
  refine .inl ⟨Tryz.call23 _ _, (diff_Fields_c has u1 u2 q1.len q2.len [b0, b1, b2, b3, b4, b5, b6, b7, b8, b9, b10] rfl (fun j q b hq hb => ?_)).mono ?_⟩
  ·match j, hq, hb with
   | 0, hq, hb => cases hq; cases hb; exact key _ _ _ diff_all_1_ok Tryz.call116 k0
   | 1, hq, hb => cases hq; cases hb; exact key _ _ _ diff_all_2_ok Tryz.call117 k1
   | 2, hq, hb => cases hq; cases hb; exact key _ _ _ diff_all_3_ok Tryz.call118 k2
   | 3, hq, hb => cases hq; cases hb; exact key _ _ _ diff_all_4_ok Tryz.call119 k3
   | 4, hq, hb => cases hq; cases hb; exact key _ _ _ diff_all_5_ok Tryz.call120 k4
   | 5, hq, hb => cases hq; cases hb; exact key _ _ _ diff_all_6_ok Tryz.call121 k5
   | 6, hq, hb => cases hq; cases hb; exact key _ _ _ diff_all_7_ok Tryz.call122 k6
   | 7, hq, hb => cases hq; cases hb; exact key _ _ _ diff_all_8_ok Tryz.call123 k7
   | 8, hq, hb => cases hq; cases hb; exact key _ _ _ diff_all_9_ok Tryz.call125 k8
   | 9, hq, hb => cases hq; cases hb; exact key _ _ _ diff_all_10_ok Tryz.call126 k9
   | 10, hq, hb => cases hq; cases hb; exact key _ _ _ diff_all_11_ok Tryz.call127 k10
   | n + 11, hq, hb => cases hq
  ·rintro e w' ⟨v, he, A, c, m', hv, hS⟩
   have e2 : y = fltF [b0, b1, b2, b3, b4, b5, b6, b7, b8, b9, b10] := e2
   subst e2
   refine ⟨v, he, [.slice A (fltF [b0, b1, b2, b3, b4, b5, b6, b7, b8, b9, b10]).length c], m', [.slice A (fltF [b0, b1, b2, b3, b4, b5, b6, b7, b8, b9, b10]).length c], [], hv, rfl, ⟨_, _, rfl, ⟨rfl, rfl⟩, rfl⟩, rfl, ?_, rfl⟩
   have H := (St.start has hs hd).call0 hS
   exact E.St_conv H (fun F hF => ⟨A, c, rfl, hF⟩) (fun _ e => e)
end Go.Proofs.YtkleajhiihbefaaGreatDoor.F
set_option linter.unusedVariables false
set_option linter.unusedSimpArgs false
namespace Go.Proofs.YtkleajhiihbefaaGreatDoor.F
open Go Go.RowKit Go.Proofs.YtkleajhiihbefaaGreatDoor Go.Proofs.YtkleajhiihbefaaGreatDoor.K Go.Proofs.YtkleajhiihbefaaGreatDoor.K.E
set_option maxRecDepth 100000
noncomputable def c_diff_Diff : Con Tt := ⟨17, (sh [(.agg (sh [(.sl 6)])), (.agg (sh [(.sl 6)]))]), (sh [(.row 16 97), .i64]), 2, [], [], fun x => diff_Diff x.1 x.2⟩
theorem diff_Diff_ok : ConOk Tryz.prog tbl c_diff_Diff := fn_ok (cs := [c_diff_list, c_diff_keys, c_diff_listing_portmanteau_api_Entry_has, c_diff_copied, c_diff_Fields]) (an := [([1, 1, 1, 0, 0], .join ⟨[28], [], (sh [.bool]), [6, 8], [0, 1]⟩), ([1, 1, 1, 1, 1, 0, 1, 0], .loop 0 ⟨[10, 34], [], (sh [(.row 16 97), .i64]), [6, 8, 32, 33], [0, 1, 3]⟩ ⟨[10], [], (sh [(.row 16 97)]), [], [0, 1, 3]⟩), ([1, 1, 1, 1, 1, 0, 1, 0, 0, 1, 1, 0, 0, 1, 0, 1, 1, 1, 1, 0], .join ⟨[65], [], (sh [.bool]), [6, 8, 10, 12, 32, 33, 34], [0, 1, 3, 4]⟩)]) (fn := Tryz.f17) tOk (conCons diff_list_ok (conCons diff_keys_ok (conCons diff_listing_portmanteau_api_Entry_has_ok (conCons diff_copied_ok (conCons diff_Fields_ok conNil))))) (by rfl) Tryz.func17 (by kernel_rfl) (fun _ _ => by rfl) (fun _ => by kernel_rfl) (by kernel_rfl) (fun x => by kernel_rfl)
noncomputable def c_law29_num : Con Tt := ⟨18, (sh [.i64]), (sh [.i64]), 1, [], [], fun x => law29_num x⟩
theorem law29_num_ok : ConOk Tryz.prog tbl c_law29_num := fn_ok (cs := []) (an := []) (fn := Tryz.f18) tOk conNil (by rfl) Tryz.func18 (by kernel_rfl) (fun _ _ => by rfl) (fun _ => by kernel_rfl) (by kernel_rfl) (fun x => by kernel_rfl)
noncomputable def c_law29_live : Con Tt := ⟨16, (sh []), (sh [.bool]), 1, [], [], fun x => law29_live⟩
theorem law29_live_ok : ConOk Tryz.prog tbl c_law29_live := fn_ok (cs := [c_ref11_Canon, c_diff_Diff, c_law29_num]) (an := []) (fn := Tryz.f16) tOk (conCons ref11_Canon_ok (conCons diff_Diff_ok (conCons law29_num_ok conNil))) (by rfl) Tryz.func16 (by kernel_rfl) (fun _ _ => by rfl) (fun _ => by kernel_rfl) (by kernel_rfl) (fun x => by kernel_rfl)
noncomputable def c_diff_list_2 : Con Tt := ⟨60, (sh [(.agg (sh [(.sl 6)]))]), (sh [(.own 105 (sh [(.gen 14)])), .bool]), 2, [], [], fun x => diff_list_2 x⟩
theorem diff_list_2_ok : ConOk Tryz.prog tbl c_diff_list_2 := fn_ok (cs := [c_tree_List]) (an := [([1, 1, 1, 0, 1, 0], .loop 0 ⟨[19], [(2, 105)], (sh [.i64, (.agg (sh [(.gen 14)]))]), [5, 6, 17, 18], [0]⟩ ⟨[], [(2, 105)], (sh [(.agg (sh [(.gen 14)]))]), [5, 6], [0]⟩), ([1, 1, 1, 0, 1, 0, 0, 1, 1, 0, 0, 1], .lock [2, 4])]) (fn := Tryz.f60) tOk (conCons tree_List_ok conNil) (by rfl) Tryz.func60 (by kernel_rfl) (fun _ _ => by rfl) (fun _ => by kernel_rfl) (by kernel_rfl) (fun x => by kernel_rfl)
noncomputable def c_diff_listing_portmanteau_api_Entry_has_2 : Con Tt := ⟨62, (sh [(.own 105 (sh [(.gen 14)])), .str]), (sh [.bool, (.agg (sh [(.gen 14)]))]), 1, [(0, 105)], [], fun x => diff_listing_portmanteau_api_Entry_has_2 x.1 x.2⟩
theorem diff_listing_portmanteau_api_Entry_has_2_ok : ConOk Tryz.prog tbl c_diff_listing_portmanteau_api_Entry_has_2 := fn_ok (cs := []) (an := []) (fn := Tryz.f62) tOk conNil (by rfl) Tryz.func62 (by kernel_rfl) (fun _ _ => by rfl) (fun _ => by kernel_rfl) (by kernel_rfl) (fun x => by kernel_rfl)
noncomputable def c_diff_edit : Con Tt := ⟨72, (sh [(.own 105 (sh [(.gen 14)])), (.agg (sh [.i64, .str, .i64, .i64, .i64, .i64, .i64, .i64, (.sl 1), .str, .i64, (.sl 3)]))]), (sh [.i64, (.agg (sh [(.gen 14)]))]), 1, [(0, 105)], [], fun x => diff_edit x.1 x.2.1 x.2.2.1 x.2.2.2.1 x.2.2.2.2.1 x.2.2.2.2.2.1 x.2.2.2.2.2.2.1 x.2.2.2.2.2.2.2.1 x.2.2.2.2.2.2.2.2.1 x.2.2.2.2.2.2.2.2.2.1 x.2.2.2.2.2.2.2.2.2.2.1 x.2.2.2.2.2.2.2.2.2.2.2.1 x.2.2.2.2.2.2.2.2.2.2.2.2⟩
theorem diff_edit_ok : ConOk Tryz.prog tbl c_diff_edit := fn_ok (cs := [c_diff_listing_portmanteau_api_Entry_has_2, c_diff_copied]) (an := [([1, 1, 0, 1, 0, 1, 0, 1, 0], .lock [0, 2]), ([1, 1, 0, 1, 0, 1, 1, 1], .join ⟨[], [], (sh []), [0, 3], [0, 2, 3]⟩), ([1, 1, 1, 0], .lock [0, 2])]) (fn := Tryz.f72) tOk (conCons diff_listing_portmanteau_api_Entry_has_2_ok (conCons diff_copied_ok conNil)) (by rfl) Tryz.func72 (by kernel_rfl) (fun _ _ => by rfl) (fun _ => by kernel_rfl) (by kernel_rfl) (fun x => by kernel_rfl)
noncomputable def c_diff_entries : Con Tt := ⟨70, (sh [(.pt 14)]), (sh [(.row 2 40)]), 1, [], [], fun x => diff_entries x⟩
theorem diff_entries_ok : ConOk Tryz.prog tbl c_diff_entries := fn_ok (cs := [c_diff_keys]) (an := [([1, 1, 0, 1, 0], .loop 0 ⟨[3, 10], [], (sh [(.row 2 40), .i64]), [0, 8, 9], [1]⟩ ⟨[3], [], (sh [(.row 2 40)]), [], [1]⟩)]) (fn := Tryz.f70) tOk (conCons diff_keys_ok conNil) (by rfl) Tryz.func70 (by kernel_rfl) (fun _ _ => by rfl) (fun _ => by kernel_rfl) (by kernel_rfl) (fun x => by kernel_rfl)
noncomputable def c_diff_Apply : Con Tt := ⟨29, (sh [(.agg (sh [(.sl 6)])), (.sl 16)]), (sh [(.agg (sh [(.sl 6)])), .i64, .i64]), 3, [], [], fun x => diff_Apply x.1 x.2⟩
theorem diff_Apply_ok : ConOk Tryz.prog tbl c_diff_Apply := fn_ok (cs := [c_diff_list_2, c_diff_edit, c_diff_entries, c_tree_Canon]) (an := [([1, 1, 1, 0, 1, 0], .loop 0 ⟨[22], [(2, 105)], (sh [.i64, (.agg (sh [(.gen 14)]))]), [1, 4, 7, 20, 21], [0, 1]⟩ ⟨[], [(2, 105)], (sh [(.agg (sh [(.gen 14)]))]), [1, 4, 7], [0, 1]⟩)]) (fn := Tryz.f29) tOk (conCons diff_list_2_ok (conCons diff_edit_ok (conCons diff_entries_ok (conCons tree_Canon_ok conNil)))) (by rfl) Tryz.func29 (by kernel_rfl) (fun _ _ => by rfl) (fun _ => by kernel_rfl) (by kernel_rfl) (fun x => by kernel_rfl)
noncomputable def c_diff_Invert : Con Tt := ⟨31, (sh [(.agg (sh [(.sl 6)])), (.sl 16)]), (sh [(.row 16 97), .i64]), 2, [], [], fun x => diff_Invert x.1 x.2⟩
theorem diff_Invert_ok : ConOk Tryz.prog tbl c_diff_Invert := fn_ok (cs := [c_diff_Apply, c_diff_Diff]) (an := []) (fn := Tryz.f31) tOk (conCons diff_Apply_ok (conCons diff_Diff_ok conNil)) (by rfl) Tryz.func31 (by kernel_rfl) (fun _ _ => by rfl) (fun _ => by kernel_rfl) (by kernel_rfl) (fun x => by kernel_rfl)
noncomputable def c_ref11_SameAttrs : Con Tt := ⟨68, (sh [(.sl 3), (.sl 3)]), (sh [.bool]), 1, [], [], fun x => ref11_SameAttrs x.1 x.2⟩
theorem ref11_SameAttrs_ok : ConOk Tryz.prog tbl c_ref11_SameAttrs := fn_ok (cs := []) (an := [([1, 1, 0, 1, 0], .loop 0 ⟨[5], [], (sh [.i64]), [0, 1], []⟩ ⟨[], [], (sh []), [], []⟩)]) (fn := Tryz.f68) tOk conNil (by rfl) Tryz.func68 (by kernel_rfl) (fun _ _ => by rfl) (fun _ => by kernel_rfl) (by kernel_rfl) (fun x => by kernel_rfl)
noncomputable def c_ref11_SameKids : Con Tt := ⟨71, (sh [(.sl 5), (.sl 5)]), (sh [.bool]), 1, [], [], fun x => ref11_SameKids x.1 x.2⟩
theorem ref11_SameKids_ok : ConOk Tryz.prog tbl c_ref11_SameKids := fn_ok (cs := []) (an := [([1, 1, 0, 1, 0], .loop 0 ⟨[5], [], (sh [.i64]), [0, 1], []⟩ ⟨[], [], (sh []), [], []⟩)]) (fn := Tryz.f71) tOk conNil (by rfl) Tryz.func71 (by kernel_rfl) (fun _ _ => by rfl) (fun _ => by kernel_rfl) (by kernel_rfl) (fun x => by kernel_rfl)
noncomputable def c_ref11_Same : Con Tt := ⟨27, (sh [(.agg (sh [(.sl 6)])), (.agg (sh [(.sl 6)]))]), (sh [.bool]), 1, [], [], fun x => ref11_Same x.1 x.2⟩
theorem ref11_Same_ok : ConOk Tryz.prog tbl c_ref11_Same := fn_ok (cs := [c_ref11_SameAttrs, c_ref11_SameKids]) (an := [([1, 1, 0, 1, 0], .loop 0 ⟨[5], [], (sh [.i64]), [2, 3], [0, 1]⟩ ⟨[], [], (sh []), [], [0, 1]⟩), ([1, 1, 0, 1, 0, 0, 1, 0, 0, 0], .lockJ [0, 1] ⟨[6, 7], [], (sh [(.own 77 (sh [.i64, .i64, .i64, .i64, .i64, .i64, (.sl 1), .str, .i64, (.sl 3), (.sl 5), .i64, .i64])), (.own 77 (sh [.i64, .i64, .i64, .i64, .i64, .i64, (.sl 1), .str, .i64, (.sl 3), (.sl 5), .i64, .i64]))]), [2, 3, 5], [0, 1]⟩), ([1, 1, 0, 1, 0, 0, 1, 0, 0, 1, 0], .join ⟨[124], [], (sh [.bool]), [2, 3, 5], [0, 1, 2, 3]⟩)]) (fn := Tryz.f27) tOk (conCons ref11_SameAttrs_ok (conCons ref11_SameKids_ok conNil)) (by rfl) Tryz.func27 (by kernel_rfl) (fun _ _ => by rfl) (fun _ => by kernel_rfl) (by kernel_rfl) (fun x => by kernel_rfl)
noncomputable def c_law29_DiffBack : Con Tt := ⟨8, (sh [(.sl 2), (.sl 2)]), (sh [.bool]), 1, [], [], fun x => law29_DiffBack x.1 x.2⟩
theorem law29_DiffBack_ok : ConOk Tryz.prog tbl c_law29_DiffBack := fn_ok (cs := [c_law29_of, c_law29_live, c_diff_Diff, c_diff_Apply, c_diff_Invert, c_law29_num, c_ref11_Same]) (an := [([1, 1, 1, 0, 0], .join ⟨[39], [], (sh [.bool]), [5, 7], [0, 1]⟩)]) (fn := Tryz.f8) tOk (conCons law29_of_ok (conCons law29_live_ok (conCons diff_Diff_ok (conCons diff_Apply_ok (conCons diff_Invert_ok (conCons law29_num_ok (conCons ref11_Same_ok conNil))))))) (by rfl) Tryz.func8 (by kernel_rfl) (fun _ _ => by rfl) (fun _ => by kernel_rfl) (by kernel_rfl) (fun x => by kernel_rfl)
theorem law29_DiffBack_c {m : Mem} {w : World} (hm : Has m w)  (a0 : List TApiEntry) (A0 : Option Addr) (c0 : Nat) (h0 : SlI rApiEntry m A0 c0 a0) (a1 : List TApiEntry) (A1 : Option Addr) (c1 : Nat) (h1 : SlI rApiEntry m A1 c1 a1) {r : Bool} (hf : law29_DiffBack a0 a1 = some r) :
  Calls Tryz.prog 8 #[.slice A0 a0.length c0, .slice A1 a1.length c1] w fun e w' => ∃ v, e = .returned v ∧ v = .bool r ∧ Go.Proofs.YtkleajhiihbefaaGreatDoor.K.Ex w w' :=
 ConOk.law law29_DiffBack_ok Tryz.call8 hm (glob_of ) (a0, a1) [.slice A0 a0.length c0, .slice A1 a1.length c1] ⟨_, _, rfl, ⟨A0, c0, rfl, h0⟩, ⟨_, _, rfl, ⟨A1, c1, rfl, h1⟩, rfl⟩⟩ rfl rfl hf
end Go.Proofs.YtkleajhiihbefaaGreatDoor.F
set_option linter.unusedVariables false
set_option linter.unusedSimpArgs false
set_option linter.unusedSectionVars false
namespace Go.Proofs.YtkleajhiihbefaaGreatDoor.K.E
open Go Go.RowKit
def Tw {α : Type} (a b : Option α) : Prop := ∀ r, a = some r → b = some r
theorem Tw.rfl {α : Type} (a : Option α) : Tw a a := fun _ h => h
theorem Tw.cond {α : Type} (c : Bool) {a b a' b' : Option α} (h : Tw a b) (h' : Tw a' b') : Tw (cond c a a') (cond c b b') := by cases c <;> assumption
theorem Tw.bind {α β : Type} {a b : Option α} {f g : α → Option β} (h : Tw a b) (h' : ∀ x, Tw (f x) (g x)) : Tw (Option.bind a f) (Option.bind b g) := by
 intro r hr
 cases ha : a with
 | none => rw [ha] at hr; cases hr
 | some x => rw [ha] at hr; rw [h x ha]; exact h' x r hr
theorem Tw.bnd {σ ρ : Type} {a b : Option (Sum σ ρ)} {f g : σ → Option ρ} (h : Tw a b) (h' : ∀ x, Tw (f x) (g x)) : Tw (bnd a f) (bnd b g) := by
 intro r hr
 cases ha : a with
 | none => rw [ha] at hr; cases hr
 | some x =>
  rw [ha] at hr; rw [h x ha]
  cases x with
  | inl y => exact h' y r hr
  | inr y => exact hr
def loopF {σ ρ : Type} : Nat → (σ → Option (Sum σ ρ)) → σ → Option ρ
 | 0, _, _ => none
 | n + 1, f, s => match f s with
  | none => none
  | some (.inl s') => loopF n f s'
  | some (.inr r) => some r
theorem Tw.loop {σ ρ : Type} {f g : σ → Option (Sum σ ρ)} : ∀ (n : Nat) (s : σ), (∀ x, Tw (f x) (g x)) → Tw (loopF n f s) (loopO g s)
 | 0, s, h => fun r hr => by cases hr
 | n + 1, s, h => fun r hr => by
  unfold loopF at hr
  rw [loopO_eq]
  cases hf : f s with
  | none => rw [hf] at hr; cases hr
  | some x =>
   rw [hf] at hr
   rw [h s x hf]
   cases x with
   | inl s' => exact Tw.loop n s' h r hr
   | inr y => exact hr
theorem Tw.alt {A B C : Type} (x : A ⊕ B) {f f' : A → Option C} {g g' : B → Option C} (h : ∀ y, Tw (f y) (f' y)) (h' : ∀ y, Tw (g y) (g' y)) : Tw (altE x f g) (altE x f' g') := by
 cases x with
 | inl y => exact h y
 | inr y => exact h' y
theorem Tw.dup {α : Type} (t : Dp) {a b : Option α} (h : Tw a b) : Tw a (dup t b) := by rw [dup_eq]; exact h
theorem Tw.fork {α : Type} {a b c : Option α} (h : Tw a b) (h' : Tw a c) : Tw a (fork b c) := fun r hr => by rw [h r hr, h' r hr, fork_same]
theorem Tw.elim {A B C : Type} (x : A ⊕ B) {f f' : A → Option C} {g g' : B → Option C} (h : ∀ y, Tw (f y) (f' y)) (h' : ∀ y, Tw (g y) (g' y)) : Tw (Sum.elim f g x) (Sum.elim f' g' x) := by
 cases x with
 | inl y => exact h y
 | inr y => exact h' y
theorem Tw.map {α β : Type} (f : α → β) {a b : Option α} (h : Tw a b) : Tw (Option.map f a) (Option.map f b) := by
 intro r hr
 cases ha : a with
 | none => rw [ha] at hr; cases hr
 | some x => rw [ha] at hr; rw [h x ha]; exact hr
end Go.Proofs.YtkleajhiihbefaaGreatDoor.K.E
set_option linter.unusedVariables false
namespace Go.Proofs.YtkleajhiihbefaaGreatDoor.K.E
end Go.Proofs.YtkleajhiihbefaaGreatDoor.K.E
