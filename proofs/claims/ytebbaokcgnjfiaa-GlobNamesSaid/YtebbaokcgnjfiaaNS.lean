/- name.Split: the walk. -/
import Derived.Test.YtebbaokcgnjfiaaEGP
import Derived.Test.YtebbaokcgnjfiaaEGC
import Derived.Test.YtebbaokcgnjfiaaM4
import Derived.Test.YtebbaokcgnjfiaaW
set_option linter.unusedVariables false
set_option linter.unusedSimpArgs false
set_option linter.unusedSectionVars false
namespace Go.Proofs.Ytebbaokcgnjfiaa.K
open Go Go.RowKit
section
variable {P : Program} {B : Code} {Q : Exit → Act → World → Prop} {J : Nat → Act → World → Prop} {n : Cx} {k : List It} {κ : Kn} {w : World} {p : List Nat}
theorem isRet_eq {B : Code} {p : List Nat} (hc : isRet B p = true) : cAt B p = .ret := by
  unfold isRet at hc
  split at hc
  · assumption
  · cases hc
theorem retQ [NPc Q] (hc : isRet B p = true) (h : ∀ a, Ag n κ a → Q .ret a w) : R P B Q J n (.co p :: k) κ w := by
  intro a ha
  simp only [Hd, Exit.then]
  rw [isRet_eq hc]
  exact wpIn_ret (Hd_ret a w (h a ha) k)
theorem retCM {N D : Nat} {fn : Func} {Rp : Ending → World → Prop} (vs : List Value) (hc : isRet B p = true) (hm : w.heap[D]? = some (.deferred (some []))) (hr : ResOk P κ (w.putObj D (.deferred none)) fn.results.toList vs)
    (h : Rp (.returned (packV vs)) (w.putObj D (.deferred none))) : R P B (bodyP P fn Rp) J ⟨N, none, [D]⟩ (.co p :: k) κ w := by
  intro a ha
  simp only [Hd, Exit.then]
  rw [isRet_eq hc]
  refine wpIn_ret (Hd_ret a w ?_ k)
  show LeavesInM (Fr none) 0 P fn a.tmps Rp a.defers .returning w
  rw [ha.defers]
  exact leavesM (ds := [D]) ⟨hm, _, resultsC_run ha hr, h⟩
theorem retRC {N D : Nat} {fn : Func} {Rp : Ending → World → Prop} (vs : List Value) (hm : w.heap[D]? = some (.deferred (some []))) (hr : ResOk P κ (w.putObj D (.deferred none)) fn.results.toList vs)
    (h : Rp (.returned (packV vs)) (w.putObj D (.deferred none))) : RC P B (bodyP P fn Rp) J ⟨N, none, [D]⟩ .ret k κ w := by
  intro a ha
  refine wpIn_ret (Hd_ret a w ?_ k)
  show LeavesInM (Fr none) 0 P fn a.tmps Rp a.defers .returning w
  rw [ha.defers]
  exact leavesM (ds := [D]) ⟨hm, _, resultsC_run ha hr, h⟩
end
end Go.Proofs.Ytebbaokcgnjfiaa.K
namespace Go.Proofs.Ytebbaokcgnjfiaa.F
open Go Go.RowKit Go.Proofs.Ytebbaokcgnjfiaa Go.Proofs.Ytebbaokcgnjfiaa.K
set_option maxRecDepth 100000
theorem ixb_lt {l : List UInt8} {c : UInt8} (h : 0 ≤ Lib.indexByte l c) : Lib.indexByte l c < l.length := by
  obtain ⟨o, ho⟩ := Int.eq_ofNat_of_zero_le h
  have h1 := (Lib.indexByte_some (o := o) ho).1
  have h2 := (List.getElem?_eq_some_iff.1 h1).1
  omega
theorem strings_Cut_eq {l : List UInt8} (h : l.length ≤ 9223372036854775807) : strings_Cut l = some (cutB l) := by
  have hi : internal_stringslite_Index l = some (Lib.indexByte l 47) := by
    unfold internal_stringslite_Index
    cases hb : (([47] : List UInt8) == l) with
    | true =>
      have := beq_iff_eq.1 hb
      subst this
      rfl
    | false => rfl
  unfold strings_Cut internal_stringslite_Cut cutB
  rw [hi]
  simp only [Option.bind_some]
  by_cases h0 : 0 ≤ Lib.indexByte l 47
  · have h1 := ixb_lt h0
    rw [show decide (Lib.indexByte l 47 ≥ 0) = true from decide_eq_true h0, if_pos h0]
    simp only [cond_true]
    rw [slc_ok ⟨by omega, h0, by omega⟩]
    simp only [Option.bind_some]
    rw [wI ⟨by omega, by omega⟩, slc_ok ⟨by omega, by omega, Int.le_refl _⟩]
    simp only [Option.bind_some, Int.toNat_natCast, List.take_length]
    rw [show (Lib.indexByte l 47 + 1).toNat = (Lib.indexByte l 47).toNat + 1 by omega]
    rfl
  · rw [show decide (Lib.indexByte l 47 ≥ 0) = false from decide_eq_false h0, if_neg h0]
    rfl
theorem cut_c {m : Mem} {w : World} (hm : Has m w) (l : List UInt8) (hl : l.length ≤ 9223372036854775807) :
    Calls Try.prog 104 #[.string ⟨l.toArray⟩, .string ⟨([47] : List UInt8).toArray⟩] w fun e w' => ∃ v, e = .returned v ∧ v = .tuple #[.string ⟨(cutB l).1.toArray⟩, .string ⟨(cutB l).2.1.toArray⟩, .bool (cutB l).2.2] ∧ Ex w w' :=
  E.ConOk.plain strings_Cut_ok Try.call104 hm glob_of (l, ()) [.string ⟨l.toArray⟩, .string ⟨([47] : List UInt8).toArray⟩] ⟨_, _, rfl, ⟨rfl, hl⟩, _, _, rfl, ⟨rfl, Nat.le_of_ble_eq_true rfl⟩, rfl⟩ rfl rfl (strings_Cut_eq hl)
    [.string ⟨(cutB l).1.toArray⟩, .string ⟨(cutB l).2.1.toArray⟩, .bool (cutB l).2.2] rfl (fun η m vs h => by
      obtain ⟨v1, r1, rfl, ⟨rfl, _⟩, v2, r2, rfl, ⟨rfl, _⟩, v3, r3, rfl, h3, h4⟩ := h
      have h3 : v3 = _ := h3
      have h4 : r3 = [] := h4
      subst h3 h4
      rfl)
theorem ixb82_c {m : Mem} {w : World} (hm : Has m w) (l : List UInt8) (hl : l.length ≤ 9223372036854775807) (c : UInt8) :
    Calls Try.prog 82 #[.string ⟨l.toArray⟩, .int .u8 (c.toNat : Int)] w fun e w' => ∃ v, e = .returned v ∧ v = .int .i64 (Lib.indexByte l c) ∧ Ex w w' :=
  E.ConOk.plain strings_IndexByte_ok Try.call82 hm glob_of (l, c) [.string ⟨l.toArray⟩, .int .u8 (c.toNat : Int)] ⟨_, _, rfl, ⟨rfl, hl⟩, _, _, rfl, rfl, rfl⟩ rfl rfl (y := Lib.indexByte l c) rfl
    [.int .i64 (Lib.indexByte l c)] rfl (fun η m vs h => by
      obtain ⟨v1, r1, rfl, h3, h4⟩ := h
      have h3 : v1 = _ := h3
      have h4 : r1 = [] := h4
      subst h3 h4
      rfl)
theorem name_parts_c {m : Mem} {w : World} (hm : Has m w) (path : (List UInt8)) (l0_0 : path.length ≤ 9223372036854775807) :
    Calls Try.prog 95 #[.string ⟨path.toArray⟩] w fun e w' => ∃ v, e = .returned v ∧ ∃ gz_0_0 : Nat, ∃ m' : Mem, v = .func (.func 103) #[] #[.pointer (some (⟨gz_0_0, 0, none⟩))] ∧ St w noF m m' [blkI gz_0_0 [.string ⟨(name_parts path).toArray⟩] 9] w' ∧ (name_parts path).length ≤ 9223372036854775807 := by
  generalize hf : name_parts path = r
  unfold name_parts at hf
  have H := St.start0 hm
  refine callsR Try.func95 (by kernel_rfl) (by kernel_rfl) ?_
  refine seg 2 [.op [0] 0, .co [1]] [(0, .string ⟨path.toArray⟩)] (by kernel_rfl) ?_
  refine st (newS (some 1) (fun g => .pointer (some ⟨g, 0, none⟩)) [.string ⟨path.toArray⟩] 9 H (by kernel_rfl) ?_)
  intro g1 w1 H
  refine seg 7 [.co [1, 1]] [(2, .func (.func 103) #[] #[.pointer (some (⟨g1, 0, none⟩))])] (by kernel_rfl) ?_
  refine retR [2] [.func (.func 103) #[] #[.pointer (some (⟨g1, 0, none⟩))]] (by kernel_rfl) (by kernel_rfl) (by kernel_rfl) ?_
  have hret := hf
  subst hret
  exact ⟨_, rfl, g1, m, rfl, H, l0_0⟩
theorem name_parts_1_c {m : Mem} {w : World} (hm : Has m w) {σs ρs : Type} {X : σs → K.Item} {Y : ρs → K.Item} {yld : σs → (List UInt8) → Option (Sum σs ρs)} (lY : Nat) (hY : Yld Try.prog lY m (fun (m : Mem) (args : Array Value) (x : (List UInt8)) => args = #[.string ⟨x.toArray⟩] ∧ x.length ≤ 9223372036854775807) X Y yld) (zs : σs) (gv0 : Nat) (v_ : (List UInt8)) (lv0_0 : v_.length ≤ 9223372036854775807) {F : Nat → Prop} (hsep : Sep m w [X zs, blkI gv0 [.string ⟨v_.toArray⟩] 9] F) (hF : ∀ k, F k → m k = none) {r : (Sum σs ρs)} (hf : name_parts_1 yld zs v_ = some r) :
    Calls Try.prog 103 #[.func (.yield lY) #[] #[], .pointer (some (⟨gv0, 0, none⟩))] w fun e w' => ∃ v, e = .returned v ∧ ∃ m' : Mem, v = .tuple #[] ∧ St w F m m' [Sum.elim X Y r] w' := by
  unfold name_parts_1 at hf
  have H := St.start hm hsep hF
  refine callsR Try.func103 (by kernel_rfl) (by kernel_rfl) ?_
  obtain ⟨y55, hp55, hfl55, hfr55⟩ := bndE hf
  refine joinR 0 (fun (x : (List UInt8) × σs × Mem) => []) (fun (x : (List UInt8) × σs × Mem) (wj55 : World) => y55 = .inl (x.1, x.2.1) ∧ St w F m x.2.2 [blkI gv0 [.string ⟨x.1.toArray⟩] 9, X x.2.1] wj55 ∧ Sub m x.2.2 ∧ x.1.length ≤ 9223372036854775807) (by kernel_rfl) ?_ ?_
  · refine seg 1 [.co [0], .bl 0, .le 0] [(0, .func (.yield lY) #[] #[]), (1, .pointer (some (⟨gv0, 0, none⟩)))] (by kernel_rfl) ?_
    obtain ⟨nn72, hR72⟩ := loopO_iff.1 hp55
    refine loopR 1 (fun (x : Nat × (List UInt8) × σs × Mem) => [(0, .func (.yield lY) #[] #[]), (1, .pointer (some (⟨gv0, 0, none⟩)))]) (fun (x : Nat × (List UInt8) × σs × Mem) (wl72 : World) => iter (fun s => name_parts_1_l1 (σs := σs) (ρs := ρs) yld s.1 s.2) x.1 (x.2.1, x.2.2.1) = some y55 ∧ St w F m x.2.2.2 [blkI gv0 [.string ⟨x.2.1.toArray⟩] 9, X x.2.2.1] wl72 ∧ Sub m x.2.2.2 ∧ x.2.1.length ≤ 9223372036854775807) (fun (x : Nat × (List UInt8) × σs × Mem) => x.1) (nn72, v_, zs, m) (by kernel_rfl) (by kernel_rfl) (by kernel_rfl) ?_ ?_
    · exact ⟨hR72, (H.pull 1 rfl), (Sub.refl _), lv0_0⟩
    rintro ⟨n72, t, zs1, mm73⟩ wl72 ⟨hR72, H, hsub73, hl73_0⟩
    try dsimp only at hR72
    try dsimp only at H
    try dsimp only at hsub73
    try dsimp only at hl73_0
    obtain ⟨nk72, q72, rfl, hb_72, hnx72, hfin72⟩ := iterE hR72
    replace hb_72 : name_parts_1_l1 (σs := σs) (ρs := ρs) yld t zs1 = some q72 := hb_72
    unfold name_parts_1_l1 at hb_72
    refine seg 3 [.op [0, 0, 0, 0] 0, .co [0, 0, 0, 1], .co [0, 0, 1], .le 1, .bl 0, .le 0] [(0, .func (.yield lY) #[] #[]), (1, .pointer (some (⟨gv0, 0, none⟩)))] (by kernel_rfl) ?_
    replace H : St w F m mm73 [blkI gv0 [.string ⟨t.toArray⟩] 9, X zs1] wl72 := H
    refine st (ldR (some 6) 9 (⟨gv0, 0, none⟩) (.string ⟨t.toArray⟩) (by kernel_rfl) (by kernel_rfl) (H.cellB 0 rfl rfl) ?_)
    refine seg 2 [.co [0, 0, 0, 1], .co [0, 0, 1], .le 1, .bl 0, .le 0] [(0, .func (.yield lY) #[] #[]), (1, .pointer (some (⟨gv0, 0, none⟩))), (7, .bool (!((ByteArray.toList ⟨t.toArray⟩) == (ByteArray.toList ⟨([] : List UInt8).toArray⟩))))] (by kernel_rfl) ?_
    rw [sne_raw t ([] : List UInt8)]
    rcases condT hb_72 with ⟨hb74, hb_72⟩ | ⟨hb74, hb_72⟩
    · rw [hb74]
      refine seg 5 [.op [0, 0, 1, 0, 0] 0, .co [0, 0, 1, 0, 1], .bl 1, .le 1, .bl 0, .le 0] [(0, .func (.yield lY) #[] #[]), (1, .pointer (some (⟨gv0, 0, none⟩)))] (by kernel_rfl) ?_
      refine st (ldR (some 9) 9 (⟨gv0, 0, none⟩) (.string ⟨t.toArray⟩) (by kernel_rfl) (by kernel_rfl) (H.cellB 0 rfl rfl) ?_)
      refine st (callR (some 10) 104 #[.string ⟨t.toArray⟩, .string ⟨([47] : List UInt8).toArray⟩] Try.call104 (cut_c H.has t hl73_0) (by kernel_rfl) ?_)
      rintro _ w75 ⟨rfl, hxw75⟩
      replace H := H.ex hxw75
      refine seg 11 [.op [0, 0, 1, 0, 1, 0] 1, .co [0, 0, 1, 0, 1, 1], .bl 1, .le 1, .bl 0, .le 0] [(0, .func (.yield lY) #[] #[]), (1, .pointer (some (⟨gv0, 0, none⟩))), (3, .string ⟨((cutB t).1).toArray⟩), (14, .string ⟨((cutB t).2.1).toArray⟩)] (by kernel_rfl) ?_
      refine st (stS none 9 0 gv0 0 (.string ⟨((cutB t).2.1).toArray⟩) [.string ⟨t.toArray⟩] 9 H rfl (by kernel_rfl) (by kernel_rfl) rfl (of_decide_eq_true rfl) ?_)
      intro w76 H
      refine seg 6 [.op [0, 0, 1, 0, 1, 1, 0] 3, .co [0, 0, 1, 0, 1, 1, 1], .bl 1, .le 1, .bl 0, .le 0] [(0, .func (.yield lY) #[] #[]), (1, .pointer (some (⟨gv0, 0, none⟩))), (3, .string ⟨((cutB t).1).toArray⟩), (17, .bool (!((ByteArray.toList ⟨((cutB t).1).toArray⟩) == (ByteArray.toList ⟨([] : List UInt8).toArray⟩))))] (by kernel_rfl) ?_
      rw [sne_raw ((cutB t).1) ([] : List UInt8)]
      rcases condT hb_72 with ⟨hb77, hb_72⟩ | ⟨hb77, hb_72⟩
      · rw [hb77]
        refine seg 4 [.op [0, 0, 1, 0, 1, 1, 0] 7, .co [0, 0, 1, 0, 1, 1, 1], .bl 1, .le 1, .bl 0, .le 0] [(0, .func (.yield lY) #[] #[]), (1, .pointer (some (⟨gv0, 0, none⟩))), (3, .string ⟨((cutB t).1).toArray⟩), (21, .bool (!((ByteArray.toList ⟨((cutB t).1).toArray⟩) == (ByteArray.toList ⟨([46] : List UInt8).toArray⟩))))] (by kernel_rfl) ?_
        rw [sne_raw ((cutB t).1) ([46] : List UInt8)]
        rcases condT hb_72 with ⟨hb78, hb_72⟩ | ⟨hb78, hb_72⟩
        · rw [hb78]
          refine seg 2 [.op [0, 0, 1, 0, 1, 1, 0] 9, .co [0, 0, 1, 0, 1, 1, 1], .bl 1, .le 1, .bl 0, .le 0] [(0, .func (.yield lY) #[] #[]), (1, .pointer (some (⟨gv0, 0, none⟩))), (21, .bool true), (22, .func (.yield lY) #[] #[]), (23, .string ⟨((cutB t).1).toArray⟩)] (by kernel_rfl) ?_
          obtain ⟨yy79, hyy79, hb_72⟩ := bindE hb_72
          refine stIn (yldS (some 24) lY #[.string ⟨((cutB t).1).toArray⟩] zs1 ((cutB t).1) yy79 hY (H.pull 1 rfl) hsub73 ⟨rfl, (cutB_1 hl73_0)⟩ hyy79 (by kernel_rfl) ?_)
          intro my79 w79 hsy79 H
          rcases sumE hb_72 with ⟨zs2, rfl, hb_72⟩ | ⟨q, rfl, hb_72⟩
          · replace H : St w F m my79 [X zs2, blkI gv0 [.string ⟨((cutB t).2.1).toArray⟩] 9] w79 := H
            refine seg 6 [.le 1, .bl 0, .le 0] [(0, .func (.yield lY) #[] #[]), (1, .pointer (some (⟨gv0, 0, none⟩)))] (by kernel_rfl) ?_
            refine leR (nk72, (cutB t).2.1, zs2, my79) (Nat.lt_succ_self _) ⟨hnx72 _ (Option.some.inj hb_72).symm, (H.pull 1 rfl), (hsub73.trans hsy79), (cutB_2 hl73_0)⟩ (by kernel_rfl)
          · replace H : St w F m my79 [Y q, blkI gv0 [.string ⟨((cutB t).2.1).toArray⟩] 9] w79 := H
            refine seg 4 [.co [0, 0, 1, 0, 1, 1, 1, 0], .bl 1, .le 1, .bl 0, .le 0] [] (by kernel_rfl) ?_
            refine retR [] [] (by kernel_rfl) (by kernel_rfl) (by kernel_rfl) ?_
            obtain rfl : .inr q = r := (hfr55 _ (hfin72 _ (Option.some.inj hb_72).symm).symm)
            exact ⟨_, rfl, my79, rfl, St.takeN 1 H⟩
        · rw [hb78]
          refine seg 9 [.le 1, .bl 0, .le 0] [(0, .func (.yield lY) #[] #[]), (1, .pointer (some (⟨gv0, 0, none⟩)))] (by kernel_rfl) ?_
          refine leR (nk72, (cutB t).2.1, zs1, mm73) (Nat.lt_succ_self _) ⟨hnx72 _ (Option.some.inj hb_72).symm, H, hsub73, (cutB_2 hl73_0)⟩ (by kernel_rfl)
      · rw [hb77]
        refine seg 13 [.le 1, .bl 0, .le 0] [(0, .func (.yield lY) #[] #[]), (1, .pointer (some (⟨gv0, 0, none⟩)))] (by kernel_rfl) ?_
        refine leR (nk72, (cutB t).2.1, zs1, mm73) (Nat.lt_succ_self _) ⟨hnx72 _ (Option.some.inj hb_72).symm, H, hsub73, (cutB_2 hl73_0)⟩ (by kernel_rfl)
    · rw [hb74]
      refine seg 2 [.le 0] [] (by kernel_rfl) ?_
      refine leR_up (k' := []) (by rfl) ?_
      refine leJ (t, zs1, mm73) ⟨(hfin72 _ (Option.some.inj hb_72).symm).symm, H, hsub73, hl73_0⟩ (by kernel_rfl)
  rintro ⟨v_1, zs1, mm56⟩ wj55 ⟨hy55, H, hsub56, hl56_0⟩
  try dsimp only at hy55
  try dsimp only at H
  try dsimp only at hsub56
  try dsimp only at hl56_0
  have hf := hfl55 _ hy55
  try dsimp only at hf
  refine endR [] [] (by kernel_rfl) (by kernel_rfl) ?_
  obtain rfl : .inl zs1 = r := (Option.some.inj hf)
  exact ⟨_, rfl, mm56, rfl, St.takeN 1 (H.pull 1 rfl)⟩
theorem name_Split_c {m : Mem} {w : World} (hm : Has m w) (path : (List UInt8)) (l0_0 : path.length ≤ 9223372036854775807) {r : ((List (List UInt8)) × Int)} (hf : name_Split path = some r) :
    Calls Try.prog 74 #[.string ⟨path.toArray⟩] w fun e w' => ∃ v, e = .returned v ∧ ∃ Az_0 : Option Addr, ∃ cz_0 : Nat, ∃ m' : Mem, v = .tuple #[.slice Az_0 r.1.length cz_0, .int .i64 r.2] ∧ St w noF m m' [rowI rStr 9 Az_0 cz_0 r.1] w' := by
  unfold name_Split at hf
  have H := St.start0 hm
  refine callsR Try.func74 (by kernel_rfl) (by kernel_rfl) ?_
  refine seg 2 [.op [0] 0, .co [1]] [(0, .string ⟨path.toArray⟩)] (by kernel_rfl) ?_
  refine st (newS (some 2) (fun g => .pointer (some ⟨g, 0, none⟩)) [.slice none 0 0] 107 H (by kernel_rfl) ?_)
  intro g1 w1 H
  refine st (newS (some 3) (fun g => .pointer (some ⟨g, 0, none⟩)) [.int .i64 0] 31 H (by kernel_rfl) ?_)
  intro g2 w2 H
  refine seg 10 [.co [1, 0, 0, 1], .bl 0, .co [1, 1]] [(0, .string ⟨path.toArray⟩), (2, .pointer (some (⟨g1, 0, none⟩))), (3, .pointer (some (⟨g2, 0, none⟩))), (6, .bool (decide ((path.length : Int) > 4096)))] (by kernel_rfl) ?_
  rcases condT hf with ⟨hb22, hf⟩ | ⟨hb22, hf⟩
  · rw [hb22]
    have p22 := of_decide_eq_true hb22
    refine seg 3 [.op [1, 0, 0, 1, 0, 0] 0, .co [1, 0, 0, 1, 0, 1], .bl 0, .co [1, 1]] [(2, .pointer (some (⟨g1, 0, none⟩))), (3, .pointer (some (⟨g2, 0, none⟩)))] (by kernel_rfl) ?_
    refine st (stS none 107 1 g1 0 (.slice none 0 0) [.slice none 0 0] 107 H rfl (by kernel_rfl) (by kernel_rfl) rfl (of_decide_eq_true rfl) ?_)
    intro w23 H
    refine st (stS none 31 0 g2 0 (.int .i64 2) [.int .i64 0] 31 H rfl (by kernel_rfl) (by kernel_rfl) rfl (of_decide_eq_true rfl) ?_)
    intro w24 H
    refine seg 1 [.co [1, 0, 0, 1, 0, 1], .bl 0, .co [1, 1]] [(2, .pointer (some (⟨g1, 0, none⟩))), (3, .pointer (some (⟨g2, 0, none⟩)))] (by kernel_rfl) ?_
    have H := H.nilR rStr 9
    refine retC [.slice none 0 0, .int .i64 2] (by kernel_rfl) ⟨⟨_, rfl, ldv_one 107 (⟨g1, 0, none⟩) (.slice none 0 0) (by kernel_rfl) (H.cellB 2 rfl rfl)⟩, ⟨_, rfl, ldv_one 31 (⟨g2, 0, none⟩) (.int .i64 2) (by kernel_rfl) (H.cellB 1 rfl rfl)⟩, trivial⟩ ?_
    obtain rfl : ([], 2) = r := (Option.some.inj hf)
    exact ⟨_, rfl, none, 0, m, rfl, (St.takeN 1 H)⟩
  · rw [hb22]
    have p22 := of_decide_eq_false hb22
    refine seg 4 [.op [1, 0, 0, 1, 1, 0] 1, .co [1, 0, 0, 1, 1, 1], .bl 0, .co [1, 1]] [(0, .string ⟨path.toArray⟩), (2, .pointer (some (⟨g1, 0, none⟩))), (3, .pointer (some (⟨g2, 0, none⟩))), (11, .string ⟨path.toArray⟩)] (by kernel_rfl) ?_
    replace H : St w noF m m [blkI g2 [.int .i64 0] 31, blkI g1 [.slice none 0 0] 107] w2 := H
    refine st (callR (some 12) 82 #[.string ⟨path.toArray⟩, .int .u8 0] Try.call82 (ixb82_c H.has path l0_0 (0 : UInt8)) (by kernel_rfl) ?_)
    rintro _ w25 ⟨rfl, hx25⟩
    replace H := H.ex hx25
    refine seg 3 [.co [1, 0, 0, 1, 1, 1], .bl 0, .co [1, 1]] [(0, .string ⟨path.toArray⟩), (2, .pointer (some (⟨g1, 0, none⟩))), (3, .pointer (some (⟨g2, 0, none⟩))), (10, .bool (decide ((Lib.indexByte path (0 : UInt8)) ≥ 0)))] (by kernel_rfl) ?_
    rcases condT hf with ⟨hb26, hf⟩ | ⟨hb26, hf⟩
    · rw [hb26]
      have p26 := of_decide_eq_true hb26
      refine seg 3 [.op [1, 0, 0, 1, 1, 1, 0, 0] 0, .co [1, 0, 0, 1, 1, 1, 0, 1], .bl 0, .co [1, 1]] [(2, .pointer (some (⟨g1, 0, none⟩))), (3, .pointer (some (⟨g2, 0, none⟩)))] (by kernel_rfl) ?_
      refine st (stS none 107 1 g1 0 (.slice none 0 0) [.slice none 0 0] 107 H rfl (by kernel_rfl) (by kernel_rfl) rfl (of_decide_eq_true rfl) ?_)
      intro w27 H
      refine st (stS none 31 0 g2 0 (.int .i64 6) [.int .i64 0] 31 H rfl (by kernel_rfl) (by kernel_rfl) rfl (of_decide_eq_true rfl) ?_)
      intro w28 H
      refine seg 1 [.co [1, 0, 0, 1, 1, 1, 0, 1], .bl 0, .co [1, 1]] [(2, .pointer (some (⟨g1, 0, none⟩))), (3, .pointer (some (⟨g2, 0, none⟩)))] (by kernel_rfl) ?_
      have H := H.nilR rStr 9
      refine retC [.slice none 0 0, .int .i64 6] (by kernel_rfl) ⟨⟨_, rfl, ldv_one 107 (⟨g1, 0, none⟩) (.slice none 0 0) (by kernel_rfl) (H.cellB 2 rfl rfl)⟩, ⟨_, rfl, ldv_one 31 (⟨g2, 0, none⟩) (.int .i64 6) (by kernel_rfl) (H.cellB 1 rfl rfl)⟩, trivial⟩ ?_
      obtain rfl : ([], 6) = r := (Option.some.inj hf)
      exact ⟨_, rfl, none, 0, m, rfl, (St.takeN 1 H)⟩
    · rw [hb26]
      have p26 := of_decide_eq_false hb26
      refine seg 5 [.op [1, 1, 0] 0, .co [1, 1, 1]] [(0, .string ⟨path.toArray⟩), (2, .pointer (some (⟨g1, 0, none⟩))), (3, .pointer (some (⟨g2, 0, none⟩)))] (by kernel_rfl) ?_
      refine st (newS (some 4) (fun g => .pointer (some ⟨g, 0, none⟩)) [.slice none 0 0] 107 H (by kernel_rfl) ?_)
      intro g29 w29 H
      refine seg 5 [.op [1, 1, 1, 0, 0] 1, .co [1, 1, 1, 0, 1], .co [1, 1, 1, 1]] [(2, .pointer (some (⟨g1, 0, none⟩))), (3, .pointer (some (⟨g2, 0, none⟩))), (4, .pointer (some (⟨g29, 0, none⟩))), (14, .string ⟨path.toArray⟩)] (by kernel_rfl) ?_
      replace H : St w noF m m [blkI g29 [.slice none 0 0] 107, blkI g2 [.int .i64 0] 31, blkI g1 [.slice none 0 0] 107] w29 := H
      refine st (callR (some 15) 95 #[.string ⟨path.toArray⟩] Try.call95 (name_parts_c H.has path l0_0) (by kernel_rfl) ?_)
      rintro _ w30 ⟨g30_0_0, mk30, rfl, hS30, hl30_0⟩
      have hsub30 := hS30.sub
      replace H := H.call0 hS30
      refine seg 2 [.co [1, 1, 1, 0, 1, 0], .bl 1, .co [1, 1, 1, 1]] [(2, .pointer (some (⟨g1, 0, none⟩))), (3, .pointer (some (⟨g2, 0, none⟩))), (4, .pointer (some (⟨g29, 0, none⟩))), (15, .func (.func 103) #[] #[.pointer (some (⟨g30_0_0, 0, none⟩))])] (by kernel_rfl) ?_
      have H := H.nilR rStr 9
      obtain ⟨yv93, hyv93, hf⟩ := bindE hf
      have Hr93 := (((((H.pull 1 rfl).pull 1 rfl).pull 2 rfl).pull 3 rfl).pull 4 rfl)
      refine rangeR (σ := []) (fun (x : List (List UInt8)) (b_ : Option Addr × Nat) => [blkI g1 [.slice none 0 0] 107, blkI g2 [.int .i64 0] 31, blkI g29 [.slice (b_.1) x.length (b_.2)] 107, rowI rStr 9 (b_.1) (b_.2) x]) (fun (q : Unit) (_ : Unit) => [blkI g1 [.slice none 0 0] 107, blkI g2 [.int .i64 1] 31]) (fun q => .ret) name_Split_r1 (fun (m : Mem) (args : Array Value) (x : (List UInt8)) => args = #[.string ⟨x.toArray⟩] ∧ x.length ≤ 9223372036854775807) [16] 15 103 #[.pointer (some (⟨g30_0_0, 0, none⟩))] [blkI g30_0_0 [.string ⟨(name_parts path).toArray⟩] 9] [] (none, 0) yv93 (by kernel_rfl) (by kernel_rfl) rfl Try.call103 (by intro m1 args x h; obtain ⟨rfl, _⟩ := h; rfl) Hr93 ?_ ?_ ?_ ?_
      · intro l X Y W F1 hm1 hY hse hF1
        exact (name_parts_1_c hm1 l hY [] g30_0_0 (name_parts path) hl30_0 hse hF1 hyv93).mono (fun e w' ⟨v, h1, m', h2, h3⟩ => ⟨v, h1, m', h3⟩)
      · rintro l l_ ⟨A_1_93, c_2_93⟩ s_ y args mr93 Fr93 Wr93 hsr93 ⟨rfl, ly93_0_0⟩ hbd H
        have hbr93 := hbd
        unfold name_Split_r1 at hbr93
        replace H : St Wr93 Fr93 mr93 mr93 [blkI g1 [.slice none 0 0] 107, blkI g2 [.int .i64 0] 31, blkI g29 [.slice (A_1_93) l_.length (c_2_93)] 107, rowI rStr 9 (A_1_93) (c_2_93) l_] Wr93 := H
        refine ⟨[(2, .pointer (some (⟨g1, 0, none⟩))), (3, .pointer (some (⟨g2, 0, none⟩))), (4, .pointer (some (⟨g29, 0, none⟩))), (5, .string ⟨s_.toArray⟩)], fun W' => ?_, ?_⟩
        · refine seg 3 [] [(2, .pointer (some (⟨g1, 0, none⟩))), (3, .pointer (some (⟨g2, 0, none⟩))), (4, .pointer (some (⟨g29, 0, none⟩))), (5, .string ⟨s_.toArray⟩)] (by kernel_rfl) ?_
          exact asgEnd
        · refine seg 8 [.co [1, 1, 1, 0, 1, 0, 1, 0, 0, 1], .co [1, 1, 1, 0, 1, 0, 1, 0, 1], .bl 2] [(2, .pointer (some (⟨g1, 0, none⟩))), (3, .pointer (some (⟨g2, 0, none⟩))), (4, .pointer (some (⟨g29, 0, none⟩))), (5, .string ⟨s_.toArray⟩), (19, .bool (decide ((s_.length : Int) > 255)))] (by kernel_rfl) ?_
          rcases condT hbr93 with ⟨hb94, hbr93⟩ | ⟨hb94, hbr93⟩
          · rw [hb94]
            have p94 := of_decide_eq_true hb94
            refine seg 3 [.op [1, 1, 1, 0, 1, 0, 1, 0, 0, 1, 0, 0] 0, .co [1, 1, 1, 0, 1, 0, 1, 0, 0, 1, 0, 1], .co [1, 1, 1, 0, 1, 0, 1, 0, 1], .bl 2] [(2, .pointer (some (⟨g1, 0, none⟩))), (3, .pointer (some (⟨g2, 0, none⟩))), (4, .pointer (some (⟨g29, 0, none⟩))), (5, .string ⟨s_.toArray⟩)] (by kernel_rfl) ?_
            refine st (stS none 107 0 g1 0 (.slice none 0 0) [.slice none 0 0] 107 H rfl (by kernel_rfl) (by kernel_rfl) rfl (of_decide_eq_true rfl) ?_)
            intro w95 H
            refine st (stS none 31 1 g2 0 (.int .i64 1) [.int .i64 0] 31 H rfl (by kernel_rfl) (by kernel_rfl) rfl (of_decide_eq_true rfl) ?_)
            intro w96 H
            refine seg 1 [.co [1, 1, 1, 0, 1, 0, 1, 0, 0, 1, 0, 1], .co [1, 1, 1, 0, 1, 0, 1, 0, 1], .bl 2] [] (by kernel_rfl) ?_
            refine retQ (by kernel_rfl) fun a ha => ?_
            exact ⟨(), (), mr93, (Option.some.inj hbr93).symm, rfl, St.takeN 2 H⟩
          · rw [hb94]
            have p94 := of_decide_eq_false hb94
            refine seg 3 [.op [1, 1, 1, 0, 1, 0, 1, 0, 1] 0, .bl 2] [(4, .pointer (some (⟨g29, 0, none⟩))), (5, .string ⟨s_.toArray⟩)] (by kernel_rfl) ?_
            refine st (ldR (some 20) 107 (⟨g29, 0, none⟩) (.slice A_1_93 l_.length c_2_93) (by kernel_rfl) (by kernel_rfl) (H.cellB 2 rfl rfl) ?_)
            refine seg 1 [.op [1, 1, 1, 0, 1, 0, 1, 0, 1] 2, .bl 2] [(4, .pointer (some (⟨g29, 0, none⟩))), (20, .slice A_1_93 l_.length c_2_93), (21, .string ⟨s_.toArray⟩)] (by kernel_rfl) ?_
            refine st (newS (some 22) (fun g => .slice (some ⟨g, 0, none⟩) 1 1) [.string ⟨s_.toArray⟩] 9 H (by kernel_rfl) ?_)
            intro g100 w100 H
            replace H : St Wr93 Fr93 mr93 mr93 [blkI g100 [.string ⟨s_.toArray⟩] 9, blkI g1 [.slice none 0 0] 107, blkI g2 [.int .i64 0] 31, blkI g29 [.slice A_1_93 l_.length c_2_93] 107, rowI rStr 9 A_1_93 c_2_93 l_] w100 := H
            obtain ⟨b1, h_b1, hbr93⟩ := bindE hbr93
            refine st (appS (r := rStr) (some 23) 107 9 16 (.string ⟨([] : List UInt8).toArray⟩) 107 4 A_1_93 (some ⟨g100, 0, none⟩) c_2_93 1 1 l_ [s_] b1 _ H rfl ⟨Try.underlying107, by kernel_rfl⟩ rfl (by decide) (by kernel_rfl) (Cs.of_blk (H.blk 0 rfl)) (Rows.cons (cs := [.string ⟨s_.toArray⟩]) ⟨rfl, ly93_0_0⟩ Rows.nil) rfl h_b1 (by decide) (by decide) ?_)
            intro A101 c101 w101 H
            replace H := H.drop 0 rfl
            refine st (stS none 107 2 g29 0 (.slice A101 b1.length c101) [.slice A_1_93 l_.length c_2_93] 107 H rfl (by kernel_rfl) (by kernel_rfl) rfl (of_decide_eq_true rfl) ?_)
            intro w102 H
            refine seg 2 [] [] (by kernel_rfl) ?_
            exact rndEnd b1 (A101, c101) mr93 (Option.some.inj hbr93).symm H
      · rintro l_ ⟨A_1_93, c_2_93⟩ md93 D93 wd93 hr hsd93 H
        subst hr
        try dsimp only [Sum.elim] at hf
        replace H : St w noF m md93 [objI D93 (.deferred (some [])), blkI g1 [.slice none 0 0] 107, blkI g2 [.int .i64 0] 31, blkI g29 [.slice (A_1_93) l_.length (c_2_93)] 107, rowI rStr 9 (A_1_93) (c_2_93) l_] wd93 := H
        refine seg 4 [.op [1, 1, 1, 1, 0, 0] 0, .co [1, 1, 1, 1, 0, 1], .co [1, 1, 1, 1, 1]] [(2, .pointer (some (⟨g1, 0, none⟩))), (3, .pointer (some (⟨g2, 0, none⟩))), (4, .pointer (some (⟨g29, 0, none⟩)))] (by kernel_rfl) ?_
        refine st (ldR (some 24) 107 (⟨g29, 0, none⟩) (.slice A_1_93 l_.length c_2_93) (by kernel_rfl) (by kernel_rfl) (H.cellB 3 rfl rfl) ?_)
        refine seg 3 [.co [1, 1, 1, 1, 0, 1], .co [1, 1, 1, 1, 1]] [(2, .pointer (some (⟨g1, 0, none⟩))), (3, .pointer (some (⟨g2, 0, none⟩))), (4, .pointer (some (⟨g29, 0, none⟩))), (26, .bool (decide ((l_.length : Int) > 128)))] (by kernel_rfl) ?_
        rcases condT hf with ⟨hb106, hf⟩ | ⟨hb106, hf⟩
        · rw [hb106]
          have p106 := of_decide_eq_true hb106
          refine seg 3 [.op [1, 1, 1, 1, 0, 1, 0, 0] 0, .co [1, 1, 1, 1, 0, 1, 0, 1], .co [1, 1, 1, 1, 1]] [(2, .pointer (some (⟨g1, 0, none⟩))), (3, .pointer (some (⟨g2, 0, none⟩)))] (by kernel_rfl) ?_
          replace H : St w noF m md93 [objI D93 (.deferred (some [])), blkI g1 [.slice none 0 0] 107, blkI g2 [.int .i64 0] 31] wd93 := ((H.drop 4 rfl).drop 3 rfl)
          refine st (stS none 107 1 g1 0 (.slice none 0 0) [.slice none 0 0] 107 H rfl (by kernel_rfl) (by kernel_rfl) rfl (of_decide_eq_true rfl) ?_)
          intro w107 H
          refine st (stS none 31 2 g2 0 (.int .i64 3) [.int .i64 0] 31 H rfl (by kernel_rfl) (by kernel_rfl) rfl (of_decide_eq_true rfl) ?_)
          intro w108 H
          refine seg 1 [.co [1, 1, 1, 1, 0, 1, 0, 1], .co [1, 1, 1, 1, 1]] [(2, .pointer (some (⟨g1, 0, none⟩))), (3, .pointer (some (⟨g2, 0, none⟩)))] (by kernel_rfl) ?_
          have H := H.nilR rStr 9
          have hmk := (H.pull 1 rfl).mark
          refine retCM [.slice none 0 0, .int .i64 3] (by kernel_rfl) hmk.1 ⟨⟨_, rfl, ldv_one 107 (⟨g1, 0, none⟩) (.slice none 0 0) (by kernel_rfl) (hmk.2.cellB 1 rfl rfl)⟩, ⟨_, rfl, ldv_one 31 (⟨g2, 0, none⟩) (.int .i64 3) (by kernel_rfl) (hmk.2.cellB 2 rfl rfl)⟩, trivial⟩ ?_
          obtain rfl : ([], 3) = r := (Option.some.inj hf)
          exact ⟨_, rfl, none, 0, md93, rfl, (St.takeN 1 hmk.2)⟩
        · rw [hb106]
          have p106 := of_decide_eq_false hb106
          refine seg 4 [.op [1, 1, 1, 1, 1, 0] 0, .co [1, 1, 1, 1, 1, 1]] [(2, .pointer (some (⟨g1, 0, none⟩))), (3, .pointer (some (⟨g2, 0, none⟩))), (4, .pointer (some (⟨g29, 0, none⟩)))] (by kernel_rfl) ?_
          refine st (ldR (some 27) 107 (⟨g29, 0, none⟩) (.slice A_1_93 l_.length c_2_93) (by kernel_rfl) (by kernel_rfl) (H.cellB 3 rfl rfl) ?_)
          refine st (stS none 107 1 g1 0 (.slice A_1_93 l_.length c_2_93) [.slice none 0 0] 107 H rfl (by kernel_rfl) (by kernel_rfl) rfl (of_decide_eq_true rfl) ?_)
          intro w109 H
          refine st (stS none 31 2 g2 0 (.int .i64 0) [.int .i64 0] 31 H rfl (by kernel_rfl) (by kernel_rfl) rfl (of_decide_eq_true rfl) ?_)
          intro w110 H
          refine seg 1 [.co [1, 1, 1, 1, 1, 1]] [(2, .pointer (some (⟨g1, 0, none⟩))), (3, .pointer (some (⟨g2, 0, none⟩)))] (by kernel_rfl) ?_
          have hmk := H.mark
          refine retCM [.slice A_1_93 l_.length c_2_93, .int .i64 0] (by kernel_rfl) hmk.1 ⟨⟨_, rfl, ldv_one 107 (⟨g1, 0, none⟩) (.slice A_1_93 l_.length c_2_93) (by kernel_rfl) (hmk.2.cellB 0 rfl rfl)⟩, ⟨_, rfl, ldv_one 31 (⟨g2, 0, none⟩) (.int .i64 0) (by kernel_rfl) (hmk.2.cellB 1 rfl rfl)⟩, trivial⟩ ?_
          obtain rfl : (l_, 0) = r := (Option.some.inj hf)
          exact ⟨_, rfl, A_1_93, c_2_93, md93, rfl, (St.takeN 1 (hmk.2.pull 3 rfl))⟩
      · rintro q c md D wd hr hsd H
        subst hr
        try dsimp only [Sum.elim] at hf
        have hmk := H.mark
        refine retRC [.slice none 0 0, .int .i64 1] hmk.1 ⟨⟨_, rfl, ldv_one 107 (⟨g1, 0, none⟩) (.slice none 0 0) (by kernel_rfl) (hmk.2.cellB 0 rfl rfl)⟩, ⟨_, rfl, ldv_one 31 (⟨g2, 0, none⟩) (.int .i64 1) (by kernel_rfl) (hmk.2.cellB 1 rfl rfl)⟩, trivial⟩ ?_
        obtain rfl : ([], 1) = r := (Option.some.inj hf)
        exact ⟨_, rfl, none, 0, md, rfl, St.takeN 1 (hmk.2.nilR rStr 9)⟩

theorem name_Split_ok : E.ConOk Try.prog tbl c_name_Split := by
  intro st x y hy η m w F vals hr hlen has gl hs hd
  have hr : E.RL tbl η m [.str x] vals := hr
  obtain ⟨v0, r0, rfl, ⟨rfl, hl⟩, e2⟩ := hr
  have e2 : r0 = [] := e2
  subst e2
  have hlen : η.length = 0 := hlen
  refine .inl ⟨Try.call74 _ _, (name_Split_c has x hl (r := y) hy).mono ?_⟩
  rintro e w' ⟨v, he, A, c, m', hv, hS⟩
  refine ⟨v, he, [.slice A y.1.length c], m', [.slice A y.1.length c, .int .i64 y.2], [], hv, rfl, ⟨_, _, rfl, ⟨?_, _, _, _, rfl⟩, _, _, rfl, rfl, rfl⟩, ?_, ?_⟩
  · rw [List.getElem?_append_right (Nat.le_refl _), Nat.sub_self]; rfl
  · rw [List.length_append]; rfl
  · have H := (St.start has hs hd).call0 hS
    refine E.St_conv H (fun F hF => ⟨A, c, ?_, hF⟩) (fun _ e => e)
    rw [List.getElem?_append_right (Nat.le_refl _), Nat.sub_self]; rfl
end Go.Proofs.Ytebbaokcgnjfiaa.F
