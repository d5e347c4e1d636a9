/- Texts in one: MPGR MPC2 E18 E21 NSq MPQ. -/
import Derived.Test.YtkmhidggbnbaaaaGreatDoorBP8
import Derived.Test.YtkmhidggbnbaaaaGreatDoorBP9
import Derived.Test.YtkmhidggbnbaaaaGreatDoorBP2
import Derived.Test.YtkmhidggbnbaaaaGreatDoorBP7
import Derived.Lib.AppendZeros
import Derived.Test.YtkmhidggbnbaaaaGreatDoorProg
set_option linter.unusedVariables false
set_option linter.unusedSimpArgs false
namespace Go.Proofs.YtkmhidggbnbaaaaGreatDoor.K
open Go Go.RowKit Go.Proofs
section
variable {P : Program} {B : Code} {n : Cx} {p : List Nat} {i : Nat} {κ : Kn} {w : World} {w0 : World} {F0 : Nat → Prop} {m0 m : Mem} {σ : List Item} {Z : Kn → World → Prop}
theorem appZ (d : Option Nat) {α : Type} (r : Rep α) {t tn ty e by_ : Nat} {z : Value} {k kn : IntKind} (q : Nat) (hr : r.sz = 1) (H : St w0 F0 m0 m σ w) (he : elB P t e 1 by_ z) (htn : P.underlying tn = some (.int kn)) (hzc : z.cells.size = 1)
    (h0 : 0 < q) (h48 : q * by_ ≤ 281474976710656) (hby : 0 < by_) (ho : fetch B n p i κ = some (d, vS (Builtin.append_ #[t, tn] ty #[.slice none 0 0, .int k (q : Int)])))
    (hk : ∀ g c w1, q ≤ c → St w0 F0 m0 m (rowI r e (some ⟨g, 0, none⟩) c [] :: σ) w1 → Z (putk d (.slice (some ⟨g, 0, none⟩) q c) κ) w1) : Step P B n p i κ w Z := by
  obtain ⟨ht, hinf⟩ := he
  obtain ⟨inf, hi, hzz⟩ := Option.map_eq_some_iff.1 hinf
  simp only [Prod.mk.injEq] at hzz
  obtain ⟨hz, hs, hb2⟩ := hzz
  subst hb2
  have hq : q ≤ 281474976710656 := Nat.le_trans (Nat.le_mul_of_pos_right _ hby) h48
  refine runR ho (vS_run (Go.Lib.run_append_nil_zeros (P := P) w t tn ty e inf z k kn ht htn hi hz q h0 (by omega) (by omega) h48)) ?_
  have H1 := H.nilR r e
  obtain ⟨F, ⟨⟨xs, h1, ho1⟩, hF⟩, h2, h3⟩ := H1.upd 0 rfl
  have hF' : ∀ k, ¬ F k := fun k hk => by have := (hF k).1 hk; cases this
  refine hk _ _ _ (grownCap_ge w q 0 e) (h3 _ (rowI r e (some ⟨w.heap.size, 0, none⟩) (grownCap w q 0 e) []) (fun k => k = w.heap.size) ?_ ⟨⟨[], rfl, ?_⟩, fun k => ⟨fun e => by rw [e]; rfl, fun e => by cases e; rfl⟩⟩ (fun k hk => .inr (Nat.le_of_eq hk.symm)))
  · exact (((Kp.refl F w).drew).ex (Ex.alloc _ _))
  · refine ⟨by simp, .inr ⟨w.heap.size, grownCap w q 0 e, Builtin.zeroCells z.cells q ++ Builtin.zeroCells z.cells (grownCap w q 0 e - q), rfl, Nat.zero_le _, ?_, Nat.zero_le _, grownCap_le_maxLen w q 0 e (by simp only [maxLen]; omega), ?_, by simp⟩⟩
    · show (w.heap.push _)[w.heap.size]? = _
      simp
    · have hc := grownCap_ge w q 0 e
      rw [hr]
      simp [Builtin.zeroCells, hzc]
      omega
end
set_option maxRecDepth 8000 in
theorem grow_c {m : Mem} {w : World} (hm : Has m w) (n : Nat) (h1 : n * 16 ≤ 281474976710656) :
    Calls Tryz.prog 71 #[.slice none 0 0, .int .i64 n] w fun e w' => ∃ v, e = .returned v ∧ ∃ A c, v = .slice A 0 c ∧ St w noF m m [rowI rStr 9 A c []] w' := by
  have H := St.start0 hm
  refine callsR Tryz.func71 (by kernel_rfl) (by kernel_rfl) ?_
  refine seg 10 [.co [1, 0, 1], .co [1, 1]] [(0, .slice none 0 0), (1, .int .i64 n), (6, .bool (decide ((n : Int) < 0)))] (by kernel_rfl) ?_
  rw [show decide ((n : Int) < 0) = false from decide_eq_false (by omega)]
  refine seg 19 [.co [1, 1, 0, 1, 1], .co [1, 1, 1]] [(0, .slice none 0 0), (1, .int .i64 (IntKind.i64.wrap (n - 0))), (16, .bool (decide (IntKind.i64.wrap (n - 0) > 0)))] (by kernel_rfl) ?_
  rw [show IntKind.i64.wrap ((n : Int) - 0) = n by rw [IntKind.wrap_i64]; omega]
  by_cases h0 : 0 < n
  · rw [show decide ((n : Int) > 0) = true from decide_eq_true (by omega)]
    refine seg 5 [.op [1, 1, 0, 1, 1, 0] 3, .co [1, 1, 1]] [(0, .slice none 0 0), (1, .int .i64 n), (17, .slice none 0 0), (19, .int .i64 0)] (by kernel_rfl) ?_
    refine st (sliR (some 20) 39 9 1 none 0 0 none (some (.int .i64 0)) 0 0 (by kernel_rfl) (by kernel_rfl) (.inl ⟨rfl, rfl⟩) (.inr ⟨_, _, rfl, rfl⟩) (Nat.le_refl _) (Nat.le_refl _) ?_)
    intro A' _ _ hA'
    obtain rfl := hA' rfl
    refine seg 1 [.op [1, 1, 0, 1, 1, 0] 5, .co [1, 1, 1]] [(0, .slice none 0 0), (20, .slice none 0 0), (21, .int .i64 n)] (by kernel_rfl) ?_
    refine st (appZ (some 22) rStr (e := 9) (ty := 39) (k := .i64) (by_ := 16) (z := .string ⟨([] : List UInt8).toArray⟩) n rfl H (t := 39) (tn := 3) (kn := .i64) ⟨Tryz.underlying39, by kernel_rfl⟩ Tryz.underlying3 rfl h0 h1 (by decide) (by kernel_rfl) ?_)
    intro g c w1 hc H
    refine seg 2 [.op [1, 1, 0, 1, 1, 0] 8, .co [1, 1, 1]] [(22, .slice (some ⟨g, 0, none⟩) n c), (24, .int .i64 0)] (by kernel_rfl) ?_
    refine st (sliR (some 25) 39 9 1 (some ⟨g, 0, none⟩) n c none (some (.int .i64 0)) 0 0 (by kernel_rfl) (by kernel_rfl) (.inl ⟨rfl, rfl⟩) (.inr ⟨_, _, rfl, rfl⟩) (Nat.le_refl _) (Nat.zero_le _) ?_)
    intro A' _ _ hA'
    obtain rfl := hA' rfl
    refine seg 7 [.co [1, 1, 1, 1]] [(4, .slice (some ⟨g, 0, none⟩) 0 c)] (by kernel_rfl) ?_
    refine retR [4] [.slice (some ⟨g, 0, none⟩) 0 c] (by kernel_rfl) (by kernel_rfl) (by kernel_rfl) ?_
    exact ⟨_, rfl, some ⟨g, 0, none⟩, c, rfl, H⟩
  · rw [show decide ((n : Int) > 0) = false from decide_eq_false (by omega)]
    refine seg 7 [.co [1, 1, 1, 1]] [(4, .slice none 0 0)] (by kernel_rfl) ?_
    refine retR [4] [.slice none 0 0] (by kernel_rfl) (by kernel_rfl) (by kernel_rfl) ?_
    exact ⟨_, rfl, none, 0, rfl, H.nilR rStr 9⟩
end Go.Proofs.YtkmhidggbnbaaaaGreatDoor.K
namespace Go.Proofs.YtkmhidggbnbaaaaGreatDoor.F
open Go Go.RowKit Go.Proofs.YtkmhidggbnbaaaaGreatDoor Go.Proofs.YtkmhidggbnbaaaaGreatDoor.K
theorem slices_Grow_string_ok : E.ConOk Tryz.prog tbl c_slices_Grow_string := by
  intro st x y hy η m w F vals hr hlen has gl hs hd
  obtain ⟨u, n⟩ : Unit × Int := x
  have hr : E.RL tbl η m [.nils, .i64 n] vals := hr
  obtain ⟨v0, r0, rfl, e0, v1, r1, rfl, e1, e2⟩ := hr
  have e0 : v0 = .slice none 0 0 := e0
  have e1 : v1 = .int .i64 n := e1
  have e2 : r1 = [] := e2
  subst e0 e1 e2
  have hlen : η.length = 0 := hlen
  have hy : slices_Grow_string u n = some y := hy
  unfold slices_Grow_string at hy
  cases hb : (decide ((0 : Int) ≤ n) && decide ((n : Int) * 16 ≤ 281474976710656)) with
  | false => rw [hb] at hy; cases hy
  | true =>
    rw [hb] at hy
    obtain rfl : ([] : List (List UInt8)) = y := Option.some.inj hy
    simp only [Bool.and_eq_true, decide_eq_true_eq] at hb
    obtain ⟨k, rfl⟩ := Int.eq_ofNat_of_zero_le hb.1
    refine .inl ⟨Tryz.call71 _ _, (grow_c has k (by omega)).mono ?_⟩
    rintro e w' ⟨v, he, A, c, hv, hS⟩
    refine ⟨v, he, [.slice A 0 c], m, [.slice A 0 c], [], hv, rfl, ⟨_, _, rfl, ⟨?_, rfl⟩, rfl⟩, ?_, ?_, rfl⟩
    · rw [List.getElem?_append_right (Nat.le_refl _), Nat.sub_self]; rfl
    · rw [List.length_append]; rfl
    · have H := (St.start has hs hd).call0 hS
      refine E.St_conv H (fun F hF => ⟨A, c, ?_, hF⟩) (fun _ e => e)
      rw [List.getElem?_append_right (Nat.le_refl _), Nat.sub_self]; rfl
end Go.Proofs.YtkmhidggbnbaaaaGreatDoor.F
set_option linter.unusedVariables false
set_option linter.unusedSimpArgs false
namespace Go.Proofs.YtkmhidggbnbaaaaGreatDoor.F
open Go Go.RowKit Go.Proofs.YtkmhidggbnbaaaaGreatDoor Go.Proofs.YtkmhidggbnbaaaaGreatDoor.K Go.Proofs.YtkmhidggbnbaaaaGreatDoor.K.E
set_option maxRecDepth 100000
noncomputable def c_slices_Concat_string : Con Tt := ⟨52, (sh [(.sl 15)]), (sh [(.row 4 9)]), 1, [], [], fun x => slices_Concat_string x⟩
theorem slices_Concat_string_ok : ConOk Tryz.prog tbl c_slices_Concat_string := fn_ok (cs := [c_slices_Grow_string]) (an := [([1, 1, 0, 1, 0], .loop 0 ⟨[3, 11], [], (sh [.i64, .i64]), [0, 9, 10], []⟩ ⟨[3], [], (sh [.i64]), [0], []⟩), ([1, 1, 1, 1, 0, 1, 0], .loop 2 ⟨[6, 27], [], (sh [(.row 4 9), .i64]), [25, 26], []⟩ ⟨[6], [], (sh [(.row 4 9)]), [], []⟩)]) (fn := Tryz.f52) tOk (conCons slices_Grow_string_ok conNil) (by rfl) Tryz.func52 (by kernel_rfl) (fun _ _ => by rfl) (fun _ => by kernel_rfl) (by kernel_rfl) (fun x => by kernel_rfl)
noncomputable def c_model_Model_Walk_2 : Con Tt := ⟨32, (sh [(.pt 14), .i64, .str, .bool]), (sh [.i64, .i64]), 2, [], [], fun x => model_Model_Walk_2 x.1 x.2.1 x.2.2.1 x.2.2.2⟩
theorem model_Model_Walk_2_ok : ConOk Tryz.prog tbl c_model_Model_Walk_2 := fnD_ok (cs := [c_name_Absolute, c_slices_Concat_string]) (an := [([1, 1, 1, 1, 1, 0, 1], .join ⟨[11], [], (sh [.i64]), [0, 3, 8, 9, 10], [0, 1]⟩), ([1, 1, 1, 1, 1, 1, 1, 1, 0, 0], .loop 0 ⟨[10, 11, 12], [], (sh [(.sl 4), .i64, .i64]), [0, 3, 8, 9], [0]⟩ ⟨[11], [], (sh [.i64]), [8, 9], [0]⟩), ([1, 1, 1, 1, 1, 1, 1, 1, 0, 0, 0, 1, 0, 1, 1, 1, 0, 0], .join ⟨[53], [], (sh [.bool]), [0, 3, 8, 9, 10, 11, 12, 13, 14], [0]⟩)]) (ps := [c_model_Model_node_2, c_model_split, c_model_Model_of_2, c_model_Model_look, c_model_fail]) (pt := 111) (ct := cat_model_caught) (fn := Tryz.f32) tOk (conCons name_Absolute_ok (conCons slices_Concat_string_ok conNil)) (by rfl) (conPCons model_Model_node_2_ok (conPCons model_split_ok (conPCons model_Model_of_2_ok (conPCons model_Model_look_ok (conPCons model_fail_ok conPNil))))) cat_model_caught_ok Tryz.func32 (by kernel_rfl) (fun _ _ => by rfl) (fun _ => by kernel_rfl) (by kernel_rfl) (fun x => by kernel_rfl)
noncomputable def c_model_Model_Read_2 : Con Tt := ⟨11, (sh [(.pt 14), .i64, .i64, .i64]), (sh [(.row 1 5), .i64]), 2, [], [], fun x => model_Model_Read_2 x.1 x.2.1 x.2.2.1 x.2.2.2⟩
theorem model_Model_Read_2_ok : ConOk Tryz.prog tbl c_model_Model_Read_2 := fnD_ok (cs := []) (an := [([1, 1, 1, 0, 0, 0], .join ⟨[14], [], (sh [.bool]), [2, 3, 8, 9, 10], [0]⟩)]) (ps := [c_model_Model_of_2, c_model_fail]) (pt := 111) (ct := cat_model_caught) (fn := Tryz.f11) tOk conNil (by rfl) (conPCons model_Model_of_2_ok (conPCons model_fail_ok conPNil)) cat_model_caught_ok Tryz.func11 (by kernel_rfl) (fun _ _ => by rfl) (fun _ => by kernel_rfl) (by kernel_rfl) (fun x => by kernel_rfl)
noncomputable def c_law12_live : Con Tt := ⟨10, (sh []), (sh [.bool]), 1, [], [], fun x => law12_live⟩
theorem law12_live_ok : ConOk Tryz.prog tbl c_law12_live := fn_ok (cs := [c_ref11_Canon, c_model_New, c_law12_num, c_model_Model_Walk, c_model_Model_Read, c_model_Model_Walk_2, c_model_Model_Read_2]) (an := [([1, 1, 1, 0, 0], .join ⟨[26], [], (sh [.bool]), [2], [2, 3, 4]⟩)]) (fn := Tryz.f10) tOk (conCons ref11_Canon_ok (conCons model_New_ok (conCons law12_num_ok (conCons model_Model_Walk_ok (conCons model_Model_Read_ok (conCons model_Model_Walk_2_ok (conCons model_Model_Read_2_ok conNil))))))) (by rfl) Tryz.func10 (by kernel_rfl) (fun _ _ => by rfl) (fun _ => by kernel_rfl) (by kernel_rfl) (fun x => by kernel_rfl)
noncomputable def c_model_Model_Readdir : Con Tt := ⟨25, (sh [.nilp, .i64, .i64, .i64]), (sh [(.row 5 73), .i64, .i64]), 3, [], [], fun x => model_Model_Readdir x.1 x.2.1 x.2.2.1 x.2.2.2⟩
theorem model_Model_Readdir_ok : ConOk Tryz.prog tbl c_model_Model_Readdir := fnD_ok (cs := []) (an := []) (ps := [c_model_Model_of]) (pt := 111) (ct := cat_model_caught) (fn := Tryz.f25) tOk conNil (by rfl) (conPCons model_Model_of_ok conPNil) cat_model_caught_ok Tryz.func25 (by kernel_rfl) (fun _ _ => by rfl) (fun _ => by kernel_rfl) (by kernel_rfl) (fun x => by kernel_rfl)
noncomputable def c_model_Model_look_2 : ConP 1 Tt := ⟨39, (sh [.nilp, .i64, .str]), (sh []), 1, [], [], fun x => model_Model_look_2 x.1 x.2.1 x.2.2⟩
theorem model_Model_look_2_ok : ConPOk Tryz.prog tbl 111 c_model_Model_look_2 := fnP_ok (cs := []) (an := []) (ps := [c_model_Model_of]) (pt := 111) (fn := Tryz.f39) tOk conNil (by rfl) (conPCons model_Model_of_ok conPNil) Tryz.func39 (by kernel_rfl) (fun _ _ => by rfl) (fun _ => by kernel_rfl) (by kernel_rfl) (fun x => by kernel_rfl)
noncomputable def c_model_Model_Lookup : Con Tt := ⟨19, (sh [.nilp, .i64, .str]), (sh [.i64, .i64]), 2, [], [], fun x => model_Model_Lookup x.1 x.2.1 x.2.2⟩
theorem model_Model_Lookup_ok : ConOk Tryz.prog tbl c_model_Model_Lookup := fnD_ok (cs := []) (an := []) (ps := [c_model_Model_look_2]) (pt := 111) (ct := cat_model_caught) (fn := Tryz.f19) tOk conNil (by rfl) (conPCons model_Model_look_2_ok conPNil) cat_model_caught_ok Tryz.func19 (by kernel_rfl) (fun _ _ => by rfl) (fun _ => by kernel_rfl) (by kernel_rfl) (fun x => by kernel_rfl)
noncomputable def c_slices_Clone_Kid : Con Tt := ⟨41, (sh [(.sl 5)]), (sh [(.row 5 73)]), 1, [], [], fun x => slices_Clone_Kid x⟩
theorem slices_Clone_Kid_ok : ConOk Tryz.prog tbl c_slices_Clone_Kid := fn_ok (cs := []) (an := []) (fn := Tryz.f41) tOk conNil (by rfl) Tryz.func41 (by kernel_rfl) (fun _ _ => by rfl) (fun _ => by kernel_rfl) (by kernel_rfl) (fun x => by kernel_rfl)
noncomputable def c_model_Model_Readdir_2 : Con Tt := ⟨25, (sh [(.pt 14), .i64, .i64, .i64]), (sh [(.row 5 73), .i64, .i64]), 3, [], [], fun x => model_Model_Readdir_2 x.1 x.2.1 x.2.2.1 x.2.2.2⟩
theorem model_Model_Readdir_2_ok : ConOk Tryz.prog tbl c_model_Model_Readdir_2 := fnD_ok (cs := [c_slices_Clone_Kid]) (an := [([1, 1, 1, 0, 0], .join ⟨[21], [], (sh [.bool]), [2, 3, 8, 9, 10, 11], [0]⟩)]) (ps := [c_model_Model_of_2, c_model_fail]) (pt := 111) (ct := cat_model_caught) (fn := Tryz.f25) tOk (conCons slices_Clone_Kid_ok conNil) (by rfl) (conPCons model_Model_of_2_ok (conPCons model_fail_ok conPNil)) cat_model_caught_ok Tryz.func25 (by kernel_rfl) (fun _ _ => by rfl) (fun _ => by kernel_rfl) (by kernel_rfl) (fun x => by kernel_rfl)
noncomputable def c_model_Model_Lookup_2 : Con Tt := ⟨19, (sh [(.pt 14), .i64, .str]), (sh [.i64, .i64]), 2, [], [], fun x => model_Model_Lookup_2 x.1 x.2.1 x.2.2⟩
theorem model_Model_Lookup_2_ok : ConOk Tryz.prog tbl c_model_Model_Lookup_2 := fnD_ok (cs := []) (an := []) (ps := [c_model_Model_look]) (pt := 111) (ct := cat_model_caught) (fn := Tryz.f19) tOk conNil (by rfl) (conPCons model_Model_look_ok conPNil) cat_model_caught_ok Tryz.func19 (by kernel_rfl) (fun _ _ => by rfl) (fun _ => by kernel_rfl) (by kernel_rfl) (fun x => by kernel_rfl)
noncomputable def c_law12_ModelParts : Con Tt := ⟨7, (sh [(.sl 2), .i64, .u16, .u8, .u8]), (sh [.bool]), 1, [], [], fun x => law12_ModelParts x.1 x.2.1 x.2.2.1 x.2.2.2.1 x.2.2.2.2⟩
theorem law12_ModelParts_ok : ConOk Tryz.prog tbl c_law12_ModelParts := fn_ok (cs := [c_law12_made, c_law12_fails, c_law12_live, c_model_Model_Read, c_law12_num, c_model_Model_Readdir, c_model_Model_Lookup, c_model_Model_Read_2, c_model_Model_Readdir_2, c_model_Model_Lookup_2]) (an := [([1, 1, 0, 0], .join ⟨[45], [], (sh [.bool]), [0, 1, 2, 3, 4, 11, 12], [0, 1, 2]⟩), ([1, 1, 0, 1, 0, 0], .join ⟨[10], [], (sh [.bool]), [], [0, 1, 2]⟩), ([1, 1, 1, 0, 0], .join ⟨[60], [], (sh [.bool]), [1, 2, 3, 4, 11, 12], [0, 1, 2]⟩), ([1, 1, 1, 1, 0, 1, 0, 1, 1, 1, 0], .join ⟨[10], [], (sh [.bool]), [], [0, 1, 2, 3, 4, 5]⟩), ([1, 1, 1, 1, 1, 1, 1, 1, 0, 1, 0], .loop 0 ⟨[23, 24], [], (sh [.i64, .i64]), [1, 3, 11, 20, 22], [0, 1, 2, 3]⟩ ⟨[23], [], (sh [.i64]), [1, 11, 22], [0, 1, 2, 3]⟩), ([1, 1, 1, 1, 1, 1, 1, 1, 0, 1, 0, 0, 1, 0, 1, 0, 0], .join ⟨[173], [], (sh [.bool]), [1, 3, 11, 20, 22, 24, 25, 26], [0, 1, 2, 3, 4]⟩), ([1, 1, 1, 1, 1, 1, 1, 1, 0, 1, 0, 0, 1, 0, 1, 1, 0, 1, 0], .loop 2 ⟨[24, 28], [], (sh [.i64, .i64]), [1, 3, 11, 20, 22, 25, 26], [0, 1, 2, 3, 4]⟩ ⟨[24], [], (sh [.i64]), [1, 3, 11, 20, 22, 26], [0, 1, 2, 3, 4]⟩), ([1, 1, 1, 1, 1, 1, 1, 1, 0, 1, 0, 0, 1, 0, 1, 1, 0, 1, 0, 0, 1, 0, 0, 0, 0], .join ⟨[194], [], (sh [.bool]), [1, 3, 11, 20, 22, 24, 25, 26, 28], [0, 1, 2, 3, 4]⟩)]) (fn := Tryz.f7) tOk (conCons law12_made_ok (conCons law12_fails_ok (conCons law12_live_ok (conCons model_Model_Read_ok (conCons law12_num_ok (conCons model_Model_Readdir_ok (conCons model_Model_Lookup_ok (conCons model_Model_Read_2_ok (conCons model_Model_Readdir_2_ok (conCons model_Model_Lookup_2_ok conNil)))))))))) (by rfl) Tryz.func7 (by kernel_rfl) (fun _ _ => by rfl) (fun _ => by kernel_rfl) (by kernel_rfl) (fun x => by kernel_rfl)
theorem law12_ModelParts_c {m : Mem} {w : World} (hm : Has m w)  (a0 : List TApiEntry) (A0 : Option Addr) (c0 : Nat) (h0 : SlI rApiEntry m A0 c0 a0) (a1 : Int) (a2 : UInt16) (a3 : UInt8) (a4 : UInt8) {r : Bool} (hf : law12_ModelParts a0 a1 a2 a3 a4 = some r) :
    Calls Tryz.prog 7 #[.slice A0 a0.length c0, .int .i64 a1, .int .u16 (a2.toNat : Int), .int .u8 (a3.toNat : Int), .int .u8 (a4.toNat : Int)] w fun e w' => ∃ v, e = .returned v ∧ v = .bool r ∧ Go.Proofs.YtkmhidggbnbaaaaGreatDoor.K.Ex w w' :=
  ConOk.law law12_ModelParts_ok Tryz.call7 hm (glob_of ) (a0, a1, a2, a3, a4) [.slice A0 a0.length c0, .int .i64 a1, .int .u16 (a2.toNat : Int), .int .u8 (a3.toNat : Int), .int .u8 (a4.toNat : Int)] ⟨_, _, rfl, ⟨A0, c0, rfl, h0⟩, ⟨_, _, rfl, rfl, ⟨_, _, rfl, rfl, ⟨_, _, rfl, rfl, ⟨_, _, rfl, rfl, rfl⟩⟩⟩⟩⟩ rfl rfl hf
end Go.Proofs.YtkmhidggbnbaaaaGreatDoor.F
set_option linter.unusedVariables false
set_option linter.unusedSimpArgs false
set_option linter.unusedSectionVars false
namespace Go.Proofs.YtkmhidggbnbaaaaGreatDoor.K.E
open Go Go.RowKit
def Tw {α : Type} (a b : Option α) : Prop := ∀ r, a = some r → b = some r
theorem Tw.rfl {α : Type} (a : Option α) : Tw a a := fun _ h => h
theorem Tw.cond {α : Type} (c : Bool) {a b a' b' : Option α} (h : Tw a b) (h' : Tw a' b') : Tw (cond c a a') (cond c b b') := by cases c <;> assumption
theorem Tw.bind {α β : Type} {a b : Option α} {f g : α → Option β} (h : Tw a b) (h' : ∀ x, Tw (f x) (g x)) : Tw (Option.bind a f) (Option.bind b g) := by
  intro r hr
  cases ha : a with
  | none => rw [ha] at hr; cases hr
  | some x => rw [ha] at hr; rw [h x ha]; exact h' x r hr
theorem Tw.bnd {σ ρ : Type} {a b : Option (Sum σ ρ)} {f g : σ → Option ρ} (h : Tw a b) (h' : ∀ x, Tw (f x) (g x)) : Tw (bnd a f) (bnd b g) := by
  intro r hr
  cases ha : a with
  | none => rw [ha] at hr; cases hr
  | some x =>
    rw [ha] at hr; rw [h x ha]
    cases x with
    | inl y => exact h' y r hr
    | inr y => exact hr
def loopF {σ ρ : Type} : Nat → (σ → Option (Sum σ ρ)) → σ → Option ρ
  | 0, _, _ => none
  | n + 1, f, s => match f s with
    | none => none
    | some (.inl s') => loopF n f s'
    | some (.inr r) => some r
theorem Tw.loop {σ ρ : Type} {f g : σ → Option (Sum σ ρ)} : ∀ (n : Nat) (s : σ), (∀ x, Tw (f x) (g x)) → Tw (loopF n f s) (loopO g s)
  | 0, s, h => fun r hr => by cases hr
  | n + 1, s, h => fun r hr => by
    unfold loopF at hr
    rw [loopO_eq]
    cases hf : f s with
    | none => rw [hf] at hr; cases hr
    | some x =>
      rw [hf] at hr
      rw [h s x hf]
      cases x with
      | inl s' => exact Tw.loop n s' h r hr
      | inr y => exact hr
theorem Tw.alt {A B C : Type} (x : A ⊕ B) {f f' : A → Option C} {g g' : B → Option C} (h : ∀ y, Tw (f y) (f' y)) (h' : ∀ y, Tw (g y) (g' y)) : Tw (altE x f g) (altE x f' g') := by
  cases x with
  | inl y => exact h y
  | inr y => exact h' y
theorem Tw.dup {α : Type} (t : Dp) {a b : Option α} (h : Tw a b) : Tw a (dup t b) := by rw [dup_eq]; exact h
theorem Tw.fork {α : Type} {a b c : Option α} (h : Tw a b) (h' : Tw a c) : Tw a (fork b c) := fun r hr => by rw [h r hr, h' r hr, fork_same]
theorem Tw.elim {A B C : Type} (x : A ⊕ B) {f f' : A → Option C} {g g' : B → Option C} (h : ∀ y, Tw (f y) (f' y)) (h' : ∀ y, Tw (g y) (g' y)) : Tw (Sum.elim f g x) (Sum.elim f' g' x) := by
  cases x with
  | inl y => exact h y
  | inr y => exact h' y
theorem Tw.map {α β : Type} (f : α → β) {a b : Option α} (h : Tw a b) : Tw (Option.map f a) (Option.map f b) := by
  intro r hr
  cases ha : a with
  | none => rw [ha] at hr; cases hr
  | some x => rw [ha] at hr; rw [h x ha]; exact hr
end Go.Proofs.YtkmhidggbnbaaaaGreatDoor.K.E
set_option linter.unusedVariables false
namespace Go.Proofs.YtkmhidggbnbaaaaGreatDoor.K.E
theorem all_congr {α : Type} {f g : α → Bool} : ∀ {l : List α}, (∀ x ∈ l, f x = g x) → l.all f = l.all g
  | [], _ => rfl
  | x :: l, h => by rw [List.all_cons, List.all_cons, h x (List.mem_cons_self ..), all_congr fun y hy => h y (List.mem_cons_of_mem _ hy)]
theorem insC_congr {α : Type} {f g : α → α → Bool} {x : α} : ∀ {l : List α}, (∀ y ∈ l, f y x = g y x) → insC f x l = insC g x l
  | [], _ => rfl
  | y :: l, h => by
    unfold insC
    rw [h y (List.mem_cons_self ..), insC_congr fun z hz => h z (List.mem_cons_of_mem _ hz)]
theorem isort_congr {α : Type} {f g : α → α → Bool} : ∀ {l : List α}, (∀ x ∈ l, ∀ y ∈ l, f y x = g y x) → isort f l = isort g l
  | [], _ => rfl
  | x :: l, h => by
    unfold isort
    rw [isort_congr fun a ha b hb => h a (List.mem_cons_of_mem _ ha) b (List.mem_cons_of_mem _ hb)]
    exact insC_congr fun y hy => h x (List.mem_cons_self ..) y (List.mem_cons_of_mem _ ((isort_perm g l).mem_iff.1 hy))
theorem Tw.sort {α : Type} [DecidableEq α] {c d : α → α → Option Int} (l : List α) (h : ∀ x y, Tw (c x y) (d x y)) : Tw (sortBy c l) (sortBy d l) := by
  intro r hr
  have hs := sortBy_spec hr
  have e : ∀ x ∈ l, ∀ y ∈ l, d x y = c x y := fun x hx y hy => by
    have := hs.all x hx y hy
    cases hc : c x y with
    | none => rw [hc] at this; cases this
    | some v => exact h x y v hc
  have e2 : ∀ x ∈ l, ∀ y ∈ l, ltC d x y = ltC c x y := fun x hx y hy => by unfold ltC; rw [e x hx y hy]
  have e3 : sortOk d l = sortOk c l := by
    unfold sortOk
    refine all_congr fun x hx => ?_
    rw [e2 x hx x hx]
    congr 1
    refine all_congr fun y hy => ?_
    rw [e x hx y hy, e2 x hx y hy, e2 y hy x hx]
    congr 2
    refine all_congr fun z hz => ?_
    rw [e2 y hy z hz, e2 x hx z hz]
  unfold sortBy at hr ⊢
  rw [e3, isort_congr fun x hx y hy => e2 y hy x hx]
  exact hr
end Go.Proofs.YtkmhidggbnbaaaaGreatDoor.K.E
set_option linter.unusedVariables false
set_option linter.unusedSimpArgs false
namespace Go.Proofs.YtkmhidggbnbaaaaGreatDoor.F
open Go Go.RowKit Go.Proofs.YtkmhidggbnbaaaaGreatDoor.K Go.Proofs.YtkmhidggbnbaaaaGreatDoor.K.E
noncomputable def name_parts_1_l1_q {σs ρs : Type} (yld : σs → (List UInt8) → Option (Sum σs ρs)) (t : (List UInt8)) (zs1 : σs) : Option (Sum ((List UInt8) × σs) (Sum ((List UInt8) × σs) (Sum σs ρs))) :=
(cond (t != ([] : List UInt8))
(cond ((cutB t).1 != ([] : List UInt8))
(cond ((cutB t).1 != ([46] : List UInt8))
(Option.bind (yld zs1 ((cutB t).1)) fun yy79 =>
Sum.elim (fun zs2 =>
some (.inl ((cutB t).2.1, zs2))) (fun q =>
some (.inr (.inr (.inr q)))) yy79)
(some (.inl ((cutB t).2.1, zs1))))
(some (.inl ((cutB t).2.1, zs1))))
(some (.inr (.inl (t, zs1)))))
noncomputable def name_parts_1_q {σs ρs : Type} (yld : σs → (List UInt8) → Option (Sum σs ρs)) (zs : σs) (v_ : (List UInt8)) : Option (Sum σs ρs) :=
(bnd
(loopF 400 (fun s => name_parts_1_l1_q (σs := σs) (ρs := ρs) yld s.1 s.2) (v_, zs)) fun (v_1, zs1) =>
some (.inl zs1))
noncomputable def name_Split_q (path : (List UInt8)) : Option ((List (List UInt8)) × Int) :=
(cond (decide ((path.length : Int) > 4096))
(some ([], 2))
(cond (decide ((Lib.indexByte path (0 : UInt8)) ≥ 0))
(some ([], 6))
(Option.bind (name_parts_1_q name_Split_r1 [] (name_parts path)) fun yv =>
Sum.elim (fun l_ => cond (decide ((l_.length : Int) > 128))
(some ([], 3))
(some (l_, 0))) (fun _ => some ([], 1)) yv)))
theorem name_parts_1_le {σs ρs : Type} (yld : σs → (List UInt8) → Option (Sum σs ρs)) (zs : σs) (v_ : (List UInt8)) : Tw (name_parts_1_q yld zs v_) (name_parts_1 yld zs v_) := by
  unfold name_parts_1 name_parts_1_q
  refine Tw.bnd (Tw.loop _ _ fun _ => Tw.rfl _) fun _ => Tw.rfl _
theorem name_Split_le (path : List UInt8) : Tw (name_Split_q path) (name_Split path) := by
  unfold name_Split name_Split_q
  repeat (first | exact Tw.rfl _ | apply name_parts_1_le | refine Tw.cond _ ?_ ?_ | refine Tw.bind ?_ fun _ => ?_ | refine Tw.bnd ?_ fun _ => ?_ | refine Tw.loop _ _ fun _ => ?_ | refine Tw.elim _ (fun _ => ?_) (fun _ => ?_))
end Go.Proofs.YtkmhidggbnbaaaaGreatDoor.F
set_option linter.unusedVariables false
set_option linter.unusedSimpArgs false
namespace Go.Proofs.YtkmhidggbnbaaaaGreatDoor.F
open Go Go.RowKit Go.Proofs.YtkmhidggbnbaaaaGreatDoor.K Go.Proofs.YtkmhidggbnbaaaaGreatDoor.K.E
theorem Tw.pull {α β γ : Type} {A : Option α} {B : Option β} {g : α → Option γ} {f : α → β → Option γ} (h : ∀ x, Tw (g x) (Option.bind B fun y => f x y)) : Tw (Option.bind A g) (Option.bind B fun y => Option.bind A fun x => f x y) := by
  intro r hr
  cases A with
  | none => cases hr
  | some x => exact h x r hr
theorem Tw.pn {π A ρ : Type} {a b : Option (Sum π A)} {k k' : A → Option ρ} {p p' : π → Option ρ} (h : Tw a b) (hk : ∀ x, Tw (k x) (k' x)) (hp : ∀ x, Tw (p x) (p' x)) : Tw (pnE a k p) (pnE b k' p') := by
  unfold pnE
  refine Tw.bind h fun x => ?_
  cases x with
  | inl y => exact hp y
  | inr y => exact hk y
noncomputable def ref10_Split_q (path : List UInt8) : Option ((List (List UInt8)) × Int) :=
(cond (decide ((path.length : Int) > 4096))
(some ([], 2))
(bnd (loopF 60 (fun s => ref10_Split_l1 path s) (0 : Int)) fun _ =>
(bnd (loopF 60 (fun s => ref10_Split_l2 path s.1 s.2.1 s.2.2) (([], 0, 0) : (List (List UInt8)) × Int × Int)) fun l1 =>
(cond (decide ((l1.length : Int) > 128))
(some ([], 3))
(some (l1, 0))))))
theorem ref10_Split_le (path : List UInt8) : Tw (ref10_Split_q path) (ref10_Split path) := by
  unfold ref10_Split ref10_Split_q
  repeat (with_reducible (first | exact Tw.rfl _ | exact hrec | apply hrec | refine Tw.cond _ ?_ ?_ | refine Tw.pn ?_ (fun _ => ?_) (fun _ => ?_) | refine Tw.bnd ?_ fun _ => ?_ | refine Tw.bind ?_ fun _ => ?_ | refine Tw.pull fun _ => ?_ | refine Tw.loop _ _ fun _ => ?_ | refine Tw.alt _ (fun _ => ?_) (fun _ => ?_) | refine Tw.dup _ ?_ | refine Tw.fork ?_ ?_ | refine Tw.map _ ?_))
noncomputable def ref11_Up_q (path : List UInt8) : Option ((List UInt8)) :=
(bnd (loopF 60 (fun s => ref11_Up_l1 path s) ((IntKind.i64.wrap ((path.length : Int) - 1)) : Int)) fun _ =>
some ([] : List UInt8))
theorem ref11_Up_le (path : List UInt8) : Tw (ref11_Up_q path) (ref11_Up path) := by
  unfold ref11_Up ref11_Up_q
  repeat (with_reducible (first | exact Tw.rfl _ | exact hrec | apply hrec | refine Tw.cond _ ?_ ?_ | refine Tw.pn ?_ (fun _ => ?_) (fun _ => ?_) | refine Tw.bnd ?_ fun _ => ?_ | refine Tw.bind ?_ fun _ => ?_ | refine Tw.pull fun _ => ?_ | refine Tw.loop _ _ fun _ => ?_ | refine Tw.alt _ (fun _ => ?_) (fun _ => ?_) | refine Tw.dup _ ?_ | refine Tw.fork ?_ ?_ | refine Tw.map _ ?_))
noncomputable def ref11_Attrs_l2_q (l : List TApiAttr) (out : List TApiAttr) (best : Int) (i : Int) : Option (Sum (Int × Int) (Sum Int (Sum ((List TApiAttr)) (Sum ((List TApiAttr)) ((List TApiAttr)))))) :=
(cond (decide (i < (l.length : Int)))
(bnd (loopF 60 (fun s => ref11_Attrs_l3 l out i s.1 s.2) ((false, 0) : Bool × Int)) fun done1 =>
(cond (!done1)
(cond (decide (best < 0))
(some (.inl (i, (IntKind.i64.wrap (i + 1)))))
(Option.bind (idx l i) fun x3 =>
(Option.bind (idx l best) fun x4 =>
(cond (ltB x3.Name x4.Name)
(some (.inl (i, (IntKind.i64.wrap (i + 1)))))
(some (.inl (best, (IntKind.i64.wrap (i + 1)))))))))
(some (.inl (best, (IntKind.i64.wrap (i + 1)))))))
(some (.inr (.inl best))))
theorem ref11_Attrs_l2_le (l : List TApiAttr) (out : List TApiAttr) (best : Int) (i : Int) : Tw (ref11_Attrs_l2_q l out best i) (ref11_Attrs_l2 l out best i) := by
  unfold ref11_Attrs_l2 ref11_Attrs_l2_q
  repeat (with_reducible (first | exact Tw.rfl _ | exact hrec | apply hrec | refine Tw.cond _ ?_ ?_ | refine Tw.pn ?_ (fun _ => ?_) (fun _ => ?_) | refine Tw.bnd ?_ fun _ => ?_ | refine Tw.bind ?_ fun _ => ?_ | refine Tw.pull fun _ => ?_ | refine Tw.loop _ _ fun _ => ?_ | refine Tw.alt _ (fun _ => ?_) (fun _ => ?_) | refine Tw.dup _ ?_ | refine Tw.fork ?_ ?_ | refine Tw.map _ ?_))
noncomputable def ref11_Attrs_l1_q (l : List TApiAttr) (out : List TApiAttr) : Option (Sum ((List TApiAttr)) (Sum ((List TApiAttr)) ((List TApiAttr)))) :=
(cond (decide ((out.length : Int) < (l.length : Int)))
(bnd (loopF 60 (fun s => ref11_Attrs_l2_q l out s.1 s.2) (((-1), 0) : Int × Int)) fun best1 =>
(cond (decide (best1 < 0))
(some (.inr (.inr out)))
(Option.bind (idx l best1) fun x5 =>
(Option.bind (app out ([x5])) fun z =>
some (.inl z)))))
(some (.inr (.inl out))))
theorem ref11_Attrs_l1_le (l : List TApiAttr) (out : List TApiAttr) : Tw (ref11_Attrs_l1_q l out) (ref11_Attrs_l1 l out) := by
  unfold ref11_Attrs_l1 ref11_Attrs_l1_q
  repeat (with_reducible (first | exact Tw.rfl _ | apply ref11_Attrs_l2_le | exact hrec | apply hrec | refine Tw.cond _ ?_ ?_ | refine Tw.pn ?_ (fun _ => ?_) (fun _ => ?_) | refine Tw.bnd ?_ fun _ => ?_ | refine Tw.bind ?_ fun _ => ?_ | refine Tw.pull fun _ => ?_ | refine Tw.loop _ _ fun _ => ?_ | refine Tw.alt _ (fun _ => ?_) (fun _ => ?_) | refine Tw.dup _ ?_ | refine Tw.fork ?_ ?_ | refine Tw.map _ ?_))
noncomputable def ref11_Attrs_q (l : List TApiAttr) : Option ((List TApiAttr)) :=
(bnd (loopF 60 (fun s => ref11_Attrs_l1_q l s) ([] : (List TApiAttr))) fun out1 =>
some out1)
theorem ref11_Attrs_le (l : List TApiAttr) : Tw (ref11_Attrs_q l) (ref11_Attrs l) := by
  unfold ref11_Attrs ref11_Attrs_q
  repeat (with_reducible (first | exact Tw.rfl _ | apply ref11_Attrs_l1_le | exact hrec | apply hrec | refine Tw.cond _ ?_ ?_ | refine Tw.pn ?_ (fun _ => ?_) (fun _ => ?_) | refine Tw.bnd ?_ fun _ => ?_ | refine Tw.bind ?_ fun _ => ?_ | refine Tw.pull fun _ => ?_ | refine Tw.loop _ _ fun _ => ?_ | refine Tw.alt _ (fun _ => ?_) (fun _ => ?_) | refine Tw.dup _ ?_ | refine Tw.fork ?_ ?_ | refine Tw.map _ ?_))
noncomputable def ref11_Node_q (x : List UInt8) (x1 : Int) (x2 : Int) (x3 : Int) (x4 : Int) (x5 : Int) (x6 : Int) (x7 : List UInt8) (x8 : List UInt8) (x9 : Int) (x10 : List TApiAttr) : Option ((Int × Int × Int × Int × Int × Int × (List UInt8) × (List UInt8) × Int × (List TApiAttr) × (List TApiKid) × Int × Int)) :=
(bnd ((Option.bind (ref11_Attrs_q x10) fun r =>
some (.inl (x1, x2, x3, x4, x5, 0, [], ([] : List UInt8), 0, r, [], 0, 0))) : Option (Sum ((Int × Int × Int × Int × Int × Int × (List UInt8) × (List UInt8) × Int × (List TApiAttr) × (List TApiKid) × Int × Int)) ((Int × Int × Int × Int × Int × Int × (List UInt8) × (List UInt8) × Int × (List TApiAttr) × (List TApiKid) × Int × Int)))) fun j =>
(bnd ((cond (x1 == 1)
(bnd (loopF 60 (fun s => ref11_Node_l1 s.1 s.2.1 s.2.2.1 s.2.2.2.1 s.2.2.2.2.1 s.2.2.2.2.2.1 s.2.2.2.2.2.2.1 s.2.2.2.2.2.2.2.1 s.2.2.2.2.2.2.2.2.1 s.2.2.2.2.2.2.2.2.2.1 s.2.2.2.2.2.2.2.2.2.2.1 s.2.2.2.2.2.2.2.2.2.2.2.1 s.2.2.2.2.2.2.2.2.2.2.2.2) ((j.1, j.2.1, j.2.2.1, j.2.2.2.1, j.2.2.2.2.1, x6, x7, j.2.2.2.2.2.2.2.1, j.2.2.2.2.2.2.2.2.1, j.2.2.2.2.2.2.2.2.2.1, j.2.2.2.2.2.2.2.2.2.2.1, j.2.2.2.2.2.2.2.2.2.2.2.1, j.2.2.2.2.2.2.2.2.2.2.2.2) : (Int × Int × Int × Int × Int × Int × (List UInt8) × (List UInt8) × Int × (List TApiAttr) × (List TApiKid) × Int × Int))) fun j1 =>
some (.inl (j1.1, j1.2.1, j1.2.2.1, j1.2.2.2.1, j1.2.2.2.2.1, j1.2.2.2.2.2.1, j1.2.2.2.2.2.2.1, j1.2.2.2.2.2.2.2.1, j1.2.2.2.2.2.2.2.2.1, j1.2.2.2.2.2.2.2.2.2.1, j1.2.2.2.2.2.2.2.2.2.2.1, j1.2.2.2.2.2.2.2.2.2.2.2.1, j1.2.2.2.2.2.2.2.2.2.2.2.2)))
(some (.inl (j.1, j.2.1, j.2.2.1, j.2.2.2.1, j.2.2.2.2.1, j.2.2.2.2.2.1, j.2.2.2.2.2.2.1, j.2.2.2.2.2.2.2.1, j.2.2.2.2.2.2.2.2.1, j.2.2.2.2.2.2.2.2.2.1, j.2.2.2.2.2.2.2.2.2.2.1, j.2.2.2.2.2.2.2.2.2.2.2.1, j.2.2.2.2.2.2.2.2.2.2.2.2)))) : Option (Sum ((Int × Int × Int × Int × Int × Int × (List UInt8) × (List UInt8) × Int × (List TApiAttr) × (List TApiKid) × Int × Int)) ((Int × Int × Int × Int × Int × Int × (List UInt8) × (List UInt8) × Int × (List TApiAttr) × (List TApiKid) × Int × Int)))) fun j2 =>
(bnd ((cond (x1 == 3)
(some (.inl (j2.1, j2.2.1, j2.2.2.1, j2.2.2.2.1, j2.2.2.2.2.1, j2.2.2.2.2.2.1, j2.2.2.2.2.2.2.1, x8, j2.2.2.2.2.2.2.2.2.1, j2.2.2.2.2.2.2.2.2.2.1, j2.2.2.2.2.2.2.2.2.2.2.1, j2.2.2.2.2.2.2.2.2.2.2.2.1, j2.2.2.2.2.2.2.2.2.2.2.2.2)))
(some (.inl (j2.1, j2.2.1, j2.2.2.1, j2.2.2.2.1, j2.2.2.2.2.1, j2.2.2.2.2.2.1, j2.2.2.2.2.2.2.1, j2.2.2.2.2.2.2.2.1, j2.2.2.2.2.2.2.2.2.1, j2.2.2.2.2.2.2.2.2.2.1, j2.2.2.2.2.2.2.2.2.2.2.1, j2.2.2.2.2.2.2.2.2.2.2.2.1, j2.2.2.2.2.2.2.2.2.2.2.2.2)))) : Option (Sum ((Int × Int × Int × Int × Int × Int × (List UInt8) × (List UInt8) × Int × (List TApiAttr) × (List TApiKid) × Int × Int)) ((Int × Int × Int × Int × Int × Int × (List UInt8) × (List UInt8) × Int × (List TApiAttr) × (List TApiKid) × Int × Int)))) fun j3 =>
(cond (x1 == 4)
(some (j3.1, j3.2.1, j3.2.2.1, j3.2.2.2.1, j3.2.2.2.2.1, j3.2.2.2.2.2.1, j3.2.2.2.2.2.2.1, j3.2.2.2.2.2.2.2.1, x9, j3.2.2.2.2.2.2.2.2.2.1, j3.2.2.2.2.2.2.2.2.2.2.1, j3.2.2.2.2.2.2.2.2.2.2.2.1, j3.2.2.2.2.2.2.2.2.2.2.2.2))
(cond (x1 == 5)
(some (j3.1, j3.2.1, j3.2.2.1, j3.2.2.2.1, j3.2.2.2.2.1, j3.2.2.2.2.2.1, j3.2.2.2.2.2.2.1, j3.2.2.2.2.2.2.2.1, x9, j3.2.2.2.2.2.2.2.2.2.1, j3.2.2.2.2.2.2.2.2.2.2.1, j3.2.2.2.2.2.2.2.2.2.2.2.1, j3.2.2.2.2.2.2.2.2.2.2.2.2))
(some (j3.1, j3.2.1, j3.2.2.1, j3.2.2.2.1, j3.2.2.2.2.1, j3.2.2.2.2.2.1, j3.2.2.2.2.2.2.1, j3.2.2.2.2.2.2.2.1, j3.2.2.2.2.2.2.2.2.1, j3.2.2.2.2.2.2.2.2.2.1, j3.2.2.2.2.2.2.2.2.2.2.1, j3.2.2.2.2.2.2.2.2.2.2.2.1, j3.2.2.2.2.2.2.2.2.2.2.2.2)))))))
theorem ref11_Node_le (x : List UInt8) (x1 : Int) (x2 : Int) (x3 : Int) (x4 : Int) (x5 : Int) (x6 : Int) (x7 : List UInt8) (x8 : List UInt8) (x9 : Int) (x10 : List TApiAttr) : Tw (ref11_Node_q x x1 x2 x3 x4 x5 x6 x7 x8 x9 x10) (ref11_Node x x1 x2 x3 x4 x5 x6 x7 x8 x9 x10) := by
  unfold ref11_Node ref11_Node_q
  try simp only [dup_eq, fork_same]
  repeat (with_reducible (first | exact Tw.rfl _ | apply ref11_Attrs_le | exact hrec | apply hrec | refine Tw.cond _ ?_ ?_ | refine Tw.pn ?_ (fun _ => ?_) (fun _ => ?_) | refine Tw.bnd ?_ fun _ => ?_ | refine Tw.bind ?_ fun _ => ?_ | refine Tw.pull fun _ => ?_ | refine Tw.loop _ _ fun _ => ?_ | refine Tw.alt _ (fun _ => ?_) (fun _ => ?_) | refine Tw.dup _ ?_ | refine Tw.fork ?_ ?_ | refine Tw.map _ ?_))
noncomputable def ref10_text_q (a : List UInt8) (b : List UInt8) : Option (Int) :=
(bnd (loopF 60 (fun s => ref10_text_l1 a b s) (0 : Int)) fun _ =>
(Option.bind (ref10_length (a.length : Int) (b.length : Int)) fun r =>
some r))
theorem ref10_text_le (a : List UInt8) (b : List UInt8) : Tw (ref10_text_q a b) (ref10_text a b) := by
  unfold ref10_text ref10_text_q
  repeat (with_reducible (first | exact Tw.rfl _ | exact hrec | apply hrec | refine Tw.cond _ ?_ ?_ | refine Tw.pn ?_ (fun _ => ?_) (fun _ => ?_) | refine Tw.bnd ?_ fun _ => ?_ | refine Tw.bind ?_ fun _ => ?_ | refine Tw.pull fun _ => ?_ | refine Tw.loop _ _ fun _ => ?_ | refine Tw.alt _ (fun _ => ?_) (fun _ => ?_) | refine Tw.dup _ ?_ | refine Tw.fork ?_ ?_ | refine Tw.map _ ?_))
noncomputable def ref10_Order_l1_q (a : List (List UInt8)) (b : List (List UInt8)) (i : Int) : Option (Sum Int (Sum Unit Int)) :=
(bnd ((cond (decide (i < (a.length : Int)))
(some (.inl (decide (i < (b.length : Int)))))
(some (.inl false))) : Option (Sum Bool (Sum Int (Sum Unit Int)))) fun x =>
(cond x
(Option.bind (idx a i) fun x1 =>
(Option.bind (idx b i) fun x2 =>
(Option.bind (ref10_text_q x1 x2) fun r =>
(cond (r != 0)
(some (.inr (.inr r)))
(some (.inl (IntKind.i64.wrap (i + 1))))))))
(some (.inr (.inl ())))))
theorem ref10_Order_l1_le (a : List (List UInt8)) (b : List (List UInt8)) (i : Int) : Tw (ref10_Order_l1_q a b i) (ref10_Order_l1 a b i) := by
  unfold ref10_Order_l1 ref10_Order_l1_q
  repeat (with_reducible (first | exact Tw.rfl _ | apply ref10_text_le | exact hrec | apply hrec | refine Tw.cond _ ?_ ?_ | refine Tw.pn ?_ (fun _ => ?_) (fun _ => ?_) | refine Tw.bnd ?_ fun _ => ?_ | refine Tw.bind ?_ fun _ => ?_ | refine Tw.pull fun _ => ?_ | refine Tw.loop _ _ fun _ => ?_ | refine Tw.alt _ (fun _ => ?_) (fun _ => ?_) | refine Tw.dup _ ?_ | refine Tw.fork ?_ ?_ | refine Tw.map _ ?_))
noncomputable def ref10_Order_q (a : List (List UInt8)) (b : List (List UInt8)) : Option (Int) :=
(bnd (loopF 60 (fun s => ref10_Order_l1_q a b s) (0 : Int)) fun _ =>
(Option.bind (ref10_length (a.length : Int) (b.length : Int)) fun r1 =>
some r1))
theorem ref10_Order_le (a : List (List UInt8)) (b : List (List UInt8)) : Tw (ref10_Order_q a b) (ref10_Order a b) := by
  unfold ref10_Order ref10_Order_q
  repeat (with_reducible (first | exact Tw.rfl _ | apply ref10_Order_l1_le | exact hrec | apply hrec | refine Tw.cond _ ?_ ?_ | refine Tw.pn ?_ (fun _ => ?_) (fun _ => ?_) | refine Tw.bnd ?_ fun _ => ?_ | refine Tw.bind ?_ fun _ => ?_ | refine Tw.pull fun _ => ?_ | refine Tw.loop _ _ fun _ => ?_ | refine Tw.alt _ (fun _ => ?_) (fun _ => ?_) | refine Tw.dup _ ?_ | refine Tw.fork ?_ ?_ | refine Tw.map _ ?_))
noncomputable def ref11_Order_l2_q (l : List TApiEntry) (done : List Bool) (best : Int) (at_ : List (List UInt8)) (i : Int) : Option (Sum (Int × (List (List UInt8)) × Int) (Sum Int (Sum ((List Int) × (List Bool)) (Sum Unit ((List Int)))))) :=
(cond (decide (i < (l.length : Int)))
(bnd ((Option.bind (idx done i) fun x =>
(Option.bind (idx done i) fun x1 =>
(cond x1
(some (.inl true))
(Option.bind (idx l i) fun x2 =>
some (.inl (x2.Path == ([] : List UInt8))))))) : Option (Sum Bool (Sum (Int × (List (List UInt8)) × Int) (Sum Int (Sum ((List Int) × (List Bool)) (Sum Unit ((List Int)))))))) fun x3 =>
(cond x3
(some (.inl (best, at_, (IntKind.i64.wrap (i + 1)))))
(Option.bind (idx l i) fun x4 =>
(Option.bind (ref10_Split_q x4.Path) fun r =>
(cond (decide (best < 0))
(some (.inl (i, r.1, (IntKind.i64.wrap (i + 1)))))
(Option.bind (ref10_Order_q r.1 at_) fun r1 =>
(cond (decide (r1 < 0))
(some (.inl (i, r.1, (IntKind.i64.wrap (i + 1)))))
(some (.inl (best, at_, (IntKind.i64.wrap (i + 1))))))))))))
(some (.inr (.inl best))))
theorem ref11_Order_l2_le (l : List TApiEntry) (done : List Bool) (best : Int) (at_ : List (List UInt8)) (i : Int) : Tw (ref11_Order_l2_q l done best at_ i) (ref11_Order_l2 l done best at_ i) := by
  unfold ref11_Order_l2 ref11_Order_l2_q
  repeat (with_reducible (first | exact Tw.rfl _ | apply ref10_Split_le | apply ref10_Order_le | exact hrec | apply hrec | refine Tw.cond _ ?_ ?_ | refine Tw.pn ?_ (fun _ => ?_) (fun _ => ?_) | refine Tw.bnd ?_ fun _ => ?_ | refine Tw.bind ?_ fun _ => ?_ | refine Tw.pull fun _ => ?_ | refine Tw.loop _ _ fun _ => ?_ | refine Tw.alt _ (fun _ => ?_) (fun _ => ?_) | refine Tw.dup _ ?_ | refine Tw.fork ?_ ?_ | refine Tw.map _ ?_))
noncomputable def ref11_Order_l1_q (l : List TApiEntry) (out : List Int) (done : List Bool) : Option (Sum ((List Int) × (List Bool)) (Sum Unit ((List Int)))) :=
(bnd (loopF 60 (fun s => ref11_Order_l2_q l done s.1 s.2.1 s.2.2) (((-1), [], 0) : Int × (List (List UInt8)) × Int)) fun best1 =>
(cond (decide (best1 < 0))
(some (.inr (.inr out)))
(Option.bind (idx done best1) fun x5 =>
(Option.bind (idx done best1) fun x6 =>
(Option.bind (app out ([best1])) fun z =>
some (.inl (z, (List.set done best1.toNat true))))))))
theorem ref11_Order_l1_le (l : List TApiEntry) (out : List Int) (done : List Bool) : Tw (ref11_Order_l1_q l out done) (ref11_Order_l1 l out done) := by
  unfold ref11_Order_l1 ref11_Order_l1_q
  repeat (with_reducible (first | exact Tw.rfl _ | apply ref11_Order_l2_le | exact hrec | apply hrec | refine Tw.cond _ ?_ ?_ | refine Tw.pn ?_ (fun _ => ?_) (fun _ => ?_) | refine Tw.bnd ?_ fun _ => ?_ | refine Tw.bind ?_ fun _ => ?_ | refine Tw.pull fun _ => ?_ | refine Tw.loop _ _ fun _ => ?_ | refine Tw.alt _ (fun _ => ?_) (fun _ => ?_) | refine Tw.dup _ ?_ | refine Tw.fork ?_ ?_ | refine Tw.map _ ?_))
noncomputable def ref11_Order_q (l : List TApiEntry) : Option ((List Int)) :=
(Option.bind (mkz 1 false (l.length : Int)) fun made =>
(bnd (loopF 60 (fun s => ref11_Order_l1_q l s.1 s.2) (([], made) : (List Int) × (List Bool))) fun _ =>
none))
theorem ref11_Order_le (l : List TApiEntry) : Tw (ref11_Order_q l) (ref11_Order l) := by
  unfold ref11_Order ref11_Order_q
  repeat (with_reducible (first | exact Tw.rfl _ | apply ref11_Order_l1_le | exact hrec | apply hrec | refine Tw.cond _ ?_ ?_ | refine Tw.pn ?_ (fun _ => ?_) (fun _ => ?_) | refine Tw.bnd ?_ fun _ => ?_ | refine Tw.bind ?_ fun _ => ?_ | refine Tw.pull fun _ => ?_ | refine Tw.loop _ _ fun _ => ?_ | refine Tw.alt _ (fun _ => ?_) (fun _ => ?_) | refine Tw.dup _ ?_ | refine Tw.fork ?_ ?_ | refine Tw.map _ ?_))
noncomputable def ref11_owner_q (l : List TApiEntry) (i : Int) : Option (Int) :=
(Option.bind (idx l i) fun x =>
(cond (x.Kind != 6)
(some i)
(bnd (loopF 60 (fun s => ref11_owner_l1 l i s) (0 : Int)) fun _ =>
some i)))
theorem ref11_owner_le (l : List TApiEntry) (i : Int) : Tw (ref11_owner_q l i) (ref11_owner l i) := by
  unfold ref11_owner ref11_owner_q
  repeat (with_reducible (first | exact Tw.rfl _ | exact hrec | apply hrec | refine Tw.cond _ ?_ ?_ | refine Tw.pn ?_ (fun _ => ?_) (fun _ => ?_) | refine Tw.bnd ?_ fun _ => ?_ | refine Tw.bind ?_ fun _ => ?_ | refine Tw.pull fun _ => ?_ | refine Tw.loop _ _ fun _ => ?_ | refine Tw.alt _ (fun _ => ?_) (fun _ => ?_) | refine Tw.dup _ ?_ | refine Tw.fork ?_ ?_ | refine Tw.map _ ?_))
noncomputable def ref11_Last_q (path : List UInt8) : Option ((List UInt8)) :=
(bnd (loopF 60 (fun s => ref11_Last_l1 path s) ((IntKind.i64.wrap ((path.length : Int) - 1)) : Int)) fun _ =>
some path)
theorem ref11_Last_le (path : List UInt8) : Tw (ref11_Last_q path) (ref11_Last path) := by
  unfold ref11_Last ref11_Last_q
  repeat (with_reducible (first | exact Tw.rfl _ | exact hrec | apply hrec | refine Tw.cond _ ?_ ?_ | refine Tw.pn ?_ (fun _ => ?_) (fun _ => ?_) | refine Tw.bnd ?_ fun _ => ?_ | refine Tw.bind ?_ fun _ => ?_ | refine Tw.pull fun _ => ?_ | refine Tw.loop _ _ fun _ => ?_ | refine Tw.alt _ (fun _ => ?_) (fun _ => ?_) | refine Tw.dup _ ?_ | refine Tw.fork ?_ ?_ | refine Tw.map _ ?_))
noncomputable def ref11_Canon_l4_q (l : List TApiEntry) (x5 : Int) (j4 : (List Int) × Int × ((List TApiNode))) (up_ : Int) (j5 : Int) : Option (Sum (Int × Int) (Sum Int (Sum ((List Int) × Int × ((List TApiNode))) (Sum (((List TApiNode))) (((List TApiNode))))))) :=
(cond (decide (j5 < (j4.1.length : Int)))
(bnd ((Option.bind (idx j4.1 j5) fun x12 =>
(Option.bind (idx j4.1 j5) fun x13 =>
(Option.bind (idx l x13) fun x14 =>
(cond (x14.Kind == 2)
(Option.bind (idx l x5) fun x15 =>
(Option.bind (idx j4.1 j5) fun x16 =>
(Option.bind (idx j4.1 j5) fun x17 =>
(Option.bind (idx l x17) fun x18 =>
(Option.bind (ref11_Up_q x15.Path) fun r4 =>
some (.inl (x18.Path == r4)))))))
(some (.inl false)))))) : Option (Sum Bool (Sum (Int × Int) (Sum Int (Sum ((List Int) × Int × ((List TApiNode))) (Sum (((List TApiNode))) (((List TApiNode))))))))) fun x19 =>
(cond x19
(some (.inl ((IntKind.i64.wrap (j5 + 1)), (IntKind.i64.wrap (j5 + 1)))))
(some (.inl (up_, (IntKind.i64.wrap (j5 + 1)))))))
(some (.inr (.inl up_))))
theorem ref11_Canon_l4_le (l : List TApiEntry) (x5 : Int) (j4 : (List Int) × Int × ((List TApiNode))) (up_ : Int) (j5 : Int) : Tw (ref11_Canon_l4_q l x5 j4 up_ j5) (ref11_Canon_l4 l x5 j4 up_ j5) := by
  unfold ref11_Canon_l4 ref11_Canon_l4_q
  repeat (with_reducible (first | exact Tw.rfl _ | apply ref11_Up_le | exact hrec | apply hrec | refine Tw.cond _ ?_ ?_ | refine Tw.pn ?_ (fun _ => ?_) (fun _ => ?_) | refine Tw.bnd ?_ fun _ => ?_ | refine Tw.bind ?_ fun _ => ?_ | refine Tw.pull fun _ => ?_ | refine Tw.loop _ _ fun _ => ?_ | refine Tw.alt _ (fun _ => ?_) (fun _ => ?_) | refine Tw.dup _ ?_ | refine Tw.fork ?_ ?_ | refine Tw.map _ ?_))
noncomputable def ref11_Canon_l2_q (l : List TApiEntry) (r1 : (List Int)) (owners : List Int) (i1 : Int) (b11 : List TApiNode) : Option (Sum ((List Int) × Int × ((List TApiNode))) (Sum (((List TApiNode))) (((List TApiNode))))) :=
(cond (decide (i1 < (r1.length : Int)))
(Option.bind (idx r1 i1) fun x4 =>
(Option.bind (idx r1 i1) fun x5 =>
(Option.bind (ref11_owner_q l x5) fun r2 =>
(bnd (loopF 60 (fun s => ref11_Canon_l3 owners r2 s.1 s.2) (((-1), 0) : Int × Int)) fun ino1 =>
(bnd ((cond (decide (ino1 < 0))
(Option.bind (app owners ([r2])) fun z =>
(bnd ((Option.bind (idx l r2) fun x8 =>
(Option.bind (ref11_Node_q x8.Path x8.Kind x8.Mode x8.Uid x8.Gid x8.Time x8.Size x8.Data x8.Target x8.Dev x8.Attrs) fun r3 =>
(Option.bind (app b11 [{ ({ Kind := r3.1, Mode := r3.2.1, Uid := r3.2.2.1, Gid := r3.2.2.2.1, Time := r3.2.2.2.2.1, Size := r3.2.2.2.2.2.1, Data := r3.2.2.2.2.2.2.1, Target := r3.2.2.2.2.2.2.2.1, Dev := r3.2.2.2.2.2.2.2.2.1, Attrs := r3.2.2.2.2.2.2.2.2.2.1, Kids := [], Parent := r3.2.2.2.2.2.2.2.2.2.2.2.1, Links := r3.2.2.2.2.2.2.2.2.2.2.2.2 } : TApiNode) with Kids := r3.2.2.2.2.2.2.2.2.2.2.1 }]) fun z1 =>
some (.inl z1)))) : Option (Sum (((List TApiNode))) (Sum ((List Int) × Int × ((List TApiNode))) (Sum ((List Int) × Int × ((List TApiNode))) (Sum (((List TApiNode))) (((List TApiNode)))))))) fun j2 =>
(Option.bind (idx l r2) fun x9 =>
(bnd ((cond (x9.Kind == 2)
(Option.bind (idx j2 (z.length : Int)) fun x10 =>
(Option.bind (idx j2 (z.length : Int)) fun x11 =>
some (.inl (List.set j2 ((z.length : Int).toNat) ({ Kind := x11.Kind, Mode := x11.Mode, Uid := x11.Uid, Gid := x11.Gid, Time := x11.Time, Size := x11.Size, Data := x11.Data, Target := x11.Target, Dev := x11.Dev, Attrs := x11.Attrs, Kids := x11.Kids, Parent := x11.Parent, Links := 2 } : TApiNode)))))
(some (.inl j2))) : Option (Sum (((List TApiNode))) (Sum ((List Int) × Int × ((List TApiNode))) (Sum ((List Int) × Int × ((List TApiNode))) (Sum (((List TApiNode))) (((List TApiNode)))))))) fun j3 =>
some (.inl (z, (z.length : Int), j3))))))
(some (.inl (owners, ino1, b11)))) : Option (Sum ((List Int) × Int × ((List TApiNode))) (Sum ((List Int) × Int × ((List TApiNode))) (Sum (((List TApiNode))) (((List TApiNode))))))) fun j4 =>
(bnd (loopF 60 (fun s => ref11_Canon_l4_q l x5 j4 s.1 s.2) ((0, 0) : Int × Int)) fun up_1 =>
(bnd ((Option.bind (idx l x5) fun x20 =>
(Option.bind (idx j4.2.2 up_1) fun x21 =>
(Option.bind (idx j4.2.2 up_1) fun x22 =>
(Option.bind (ref11_Last_q x20.Path) fun r5 =>
(Option.bind (app x22.Kids ([({ Name := r5, Ino := j4.2.1 } : TApiKid)])) fun z2 =>
(Option.bind (idx j4.2.2 up_1) fun x23 =>
(Option.bind (chk (decide (up_1 = up_1))) fun _ =>
some (.inl (List.set j4.2.2 up_1.toNat { x22 with Kids := z2 }))))))))) : Option (Sum (((List TApiNode))) (Sum ((List Int) × Int × ((List TApiNode))) (Sum (((List TApiNode))) (((List TApiNode))))))) fun j6 =>
(Option.bind (idx l r2) fun x24 =>
(cond (x24.Kind == 2)
(Option.bind (idx j6 j4.2.1) fun x25 =>
(Option.bind (idx j6 j4.2.1) fun x26 =>
(Option.bind (idx (List.set j6 j4.2.1.toNat ({ Kind := x26.Kind, Mode := x26.Mode, Uid := x26.Uid, Gid := x26.Gid, Time := x26.Time, Size := x26.Size, Data := x26.Data, Target := x26.Target, Dev := x26.Dev, Attrs := x26.Attrs, Kids := x26.Kids, Parent := up_1, Links := x26.Links } : TApiNode)) up_1) fun x27 =>
(Option.bind (idx (List.set j6 j4.2.1.toNat ({ Kind := x26.Kind, Mode := x26.Mode, Uid := x26.Uid, Gid := x26.Gid, Time := x26.Time, Size := x26.Size, Data := x26.Data, Target := x26.Target, Dev := x26.Dev, Attrs := x26.Attrs, Kids := x26.Kids, Parent := up_1, Links := x26.Links } : TApiNode)) up_1) fun x28 =>
(Option.bind (idx (List.set j6 j4.2.1.toNat ({ Kind := x26.Kind, Mode := x26.Mode, Uid := x26.Uid, Gid := x26.Gid, Time := x26.Time, Size := x26.Size, Data := x26.Data, Target := x26.Target, Dev := x26.Dev, Attrs := x26.Attrs, Kids := x26.Kids, Parent := up_1, Links := x26.Links } : TApiNode)) up_1) fun x29 =>
(Option.bind (idx (List.set j6 j4.2.1.toNat ({ Kind := x26.Kind, Mode := x26.Mode, Uid := x26.Uid, Gid := x26.Gid, Time := x26.Time, Size := x26.Size, Data := x26.Data, Target := x26.Target, Dev := x26.Dev, Attrs := x26.Attrs, Kids := x26.Kids, Parent := up_1, Links := x26.Links } : TApiNode)) up_1) fun x30 =>
some (.inl (j4.1, (IntKind.i64.wrap (i1 + 1)), (List.set (List.set j6 j4.2.1.toNat ({ Kind := x26.Kind, Mode := x26.Mode, Uid := x26.Uid, Gid := x26.Gid, Time := x26.Time, Size := x26.Size, Data := x26.Data, Target := x26.Target, Dev := x26.Dev, Attrs := x26.Attrs, Kids := x26.Kids, Parent := up_1, Links := x26.Links } : TApiNode)) up_1.toNat ({ Kind := x30.Kind, Mode := x30.Mode, Uid := x30.Uid, Gid := x30.Gid, Time := x30.Time, Size := x30.Size, Data := x30.Data, Target := x30.Target, Dev := x30.Dev, Attrs := x30.Attrs, Kids := x30.Kids, Parent := x30.Parent, Links := (IntKind.i64.wrap (x28.Links + 1)) } : TApiNode))))))))))
(Option.bind (idx j6 j4.2.1) fun x31 =>
(Option.bind (idx j6 j4.2.1) fun x32 =>
(Option.bind (idx j6 j4.2.1) fun x33 =>
(Option.bind (idx j6 j4.2.1) fun x34 =>
some (.inl (j4.1, (IntKind.i64.wrap (i1 + 1)), (List.set j6 j4.2.1.toNat ({ Kind := x34.Kind, Mode := x34.Mode, Uid := x34.Uid, Gid := x34.Gid, Time := x34.Time, Size := x34.Size, Data := x34.Data, Target := x34.Target, Dev := x34.Dev, Attrs := x34.Attrs, Kids := x34.Kids, Parent := x34.Parent, Links := (IntKind.i64.wrap (x32.Links + 1)) } : TApiNode)))))))))))))))))
(some (.inr (.inl b11))))
theorem ref11_Canon_l2_le (l : List TApiEntry) (r1 : (List Int)) (owners : List Int) (i1 : Int) (b11 : List TApiNode) : Tw (ref11_Canon_l2_q l r1 owners i1 b11) (ref11_Canon_l2 l r1 owners i1 b11) := by
  unfold ref11_Canon_l2 ref11_Canon_l2_q
  try simp only [dup_eq, fork_same]
  repeat (with_reducible (first | exact Tw.rfl _ | apply ref11_Node_le | apply ref11_owner_le | apply ref11_Last_le | apply ref11_Canon_l4_le | exact hrec | apply hrec | refine Tw.cond _ ?_ ?_ | refine Tw.pn ?_ (fun _ => ?_) (fun _ => ?_) | refine Tw.bnd ?_ fun _ => ?_ | refine Tw.bind ?_ fun _ => ?_ | refine Tw.pull fun _ => ?_ | refine Tw.loop _ _ fun _ => ?_ | refine Tw.alt _ (fun _ => ?_) (fun _ => ?_) | refine Tw.dup _ ?_ | refine Tw.fork ?_ ?_ | refine Tw.map _ ?_))
noncomputable def ref11_Canon_q (l : List TApiEntry) : Option (((List TApiNode))) :=
(bnd (loopF 60 (fun s => ref11_Canon_l1 l s.1 s.2.1 s.2.2.1 s.2.2.2.1 s.2.2.2.2.1 s.2.2.2.2.2.1 s.2.2.2.2.2.2.1 s.2.2.2.2.2.2.2.1 s.2.2.2.2.2.2.2.2.1 s.2.2.2.2.2.2.2.2.2.1 s.2.2.2.2.2.2.2.2.2.2.1 s.2.2.2.2.2.2.2.2.2.2.2) ((0, (([] : List UInt8), 2, 493, 0, 0, 0, 0, [], ([] : List UInt8), 0, [])) : Int × ((List UInt8) × Int × Int × Int × Int × Int × Int × (List UInt8) × (List UInt8) × Int × (List TApiAttr)))) fun j =>
(Option.bind (ref11_Node_q j.1 j.2.1 j.2.2.1 j.2.2.2.1 j.2.2.2.2.1 j.2.2.2.2.2.1 j.2.2.2.2.2.2.1 j.2.2.2.2.2.2.2.1 j.2.2.2.2.2.2.2.2.1 j.2.2.2.2.2.2.2.2.2.1 j.2.2.2.2.2.2.2.2.2.2) fun r =>
(Option.bind (idx ([{ ({ Kind := r.1, Mode := r.2.1, Uid := r.2.2.1, Gid := r.2.2.2.1, Time := r.2.2.2.2.1, Size := r.2.2.2.2.2.1, Data := r.2.2.2.2.2.2.1, Target := r.2.2.2.2.2.2.2.1, Dev := r.2.2.2.2.2.2.2.2.1, Attrs := r.2.2.2.2.2.2.2.2.2.1, Kids := [], Parent := r.2.2.2.2.2.2.2.2.2.2.2.1, Links := r.2.2.2.2.2.2.2.2.2.2.2.2 } : TApiNode) with Kids := r.2.2.2.2.2.2.2.2.2.2.1 }]) 0) fun x2 =>
(Option.bind (idx ([{ ({ Kind := r.1, Mode := r.2.1, Uid := r.2.2.1, Gid := r.2.2.2.1, Time := r.2.2.2.2.1, Size := r.2.2.2.2.2.1, Data := r.2.2.2.2.2.2.1, Target := r.2.2.2.2.2.2.2.1, Dev := r.2.2.2.2.2.2.2.2.1, Attrs := r.2.2.2.2.2.2.2.2.2.1, Kids := [], Parent := r.2.2.2.2.2.2.2.2.2.2.2.1, Links := r.2.2.2.2.2.2.2.2.2.2.2.2 } : TApiNode) with Kids := r.2.2.2.2.2.2.2.2.2.2.1 }]) 0) fun x3 =>
(Option.bind (ref11_Order_q l) fun r1 =>
(bnd (loopF 60 (fun s => ref11_Canon_l2_q l r1 s.1 s.2.1 s.2.2) (([], 0, (List.set ([{ ({ Kind := r.1, Mode := r.2.1, Uid := r.2.2.1, Gid := r.2.2.2.1, Time := r.2.2.2.2.1, Size := r.2.2.2.2.2.1, Data := r.2.2.2.2.2.2.1, Target := r.2.2.2.2.2.2.2.1, Dev := r.2.2.2.2.2.2.2.2.1, Attrs := r.2.2.2.2.2.2.2.2.2.1, Kids := [], Parent := r.2.2.2.2.2.2.2.2.2.2.2.1, Links := r.2.2.2.2.2.2.2.2.2.2.2.2 } : TApiNode) with Kids := r.2.2.2.2.2.2.2.2.2.2.1 }]) ((0 : Int).toNat) ({ Kind := x3.Kind, Mode := x3.Mode, Uid := x3.Uid, Gid := x3.Gid, Time := x3.Time, Size := x3.Size, Data := x3.Data, Target := x3.Target, Dev := x3.Dev, Attrs := x3.Attrs, Kids := x3.Kids, Parent := x3.Parent, Links := 2 } : TApiNode))) : (List Int) × Int × ((List TApiNode)))) fun j7 =>
some j7))))))
theorem ref11_Canon_le (l : List TApiEntry) : Tw (ref11_Canon_q l) (ref11_Canon l) := by
  unfold ref11_Canon ref11_Canon_q
  repeat (with_reducible (first | exact Tw.rfl _ | apply ref11_Node_le | apply ref11_Order_le | apply ref11_Canon_l2_le | exact hrec | apply hrec | refine Tw.cond _ ?_ ?_ | refine Tw.pn ?_ (fun _ => ?_) (fun _ => ?_) | refine Tw.bnd ?_ fun _ => ?_ | refine Tw.bind ?_ fun _ => ?_ | refine Tw.pull fun _ => ?_ | refine Tw.loop _ _ fun _ => ?_ | refine Tw.alt _ (fun _ => ?_) (fun _ => ?_) | refine Tw.dup _ ?_ | refine Tw.fork ?_ ?_ | refine Tw.map _ ?_))
noncomputable def tree_attrs_q (l : List TApiAttr) : Option ((List TApiAttr)) :=
(bnd (loopF 60 (fun s => tree_attrs_l1 l s.1 s.2) (([], 0) : (List TApiAttr) × Int)) fun out1 =>
(Option.bind (sort_Attr out1) fun r1 =>
some r1))
theorem tree_attrs_le (l : List TApiAttr) : Tw (tree_attrs_q l) (tree_attrs l) := by
  unfold tree_attrs tree_attrs_q
  repeat (with_reducible (first | exact Tw.rfl _ | exact hrec | apply hrec | refine Tw.cond _ ?_ ?_ | refine Tw.pn ?_ (fun _ => ?_) (fun _ => ?_) | refine Tw.bnd ?_ fun _ => ?_ | refine Tw.bind ?_ fun _ => ?_ | refine Tw.pull fun _ => ?_ | refine Tw.loop _ _ fun _ => ?_ | refine Tw.alt _ (fun _ => ?_) (fun _ => ?_) | refine Tw.dup _ ?_ | refine Tw.fork ?_ ?_ | refine Tw.map _ ?_))
noncomputable def tree_lister_add_l1_q (rec_ : (List TApiNode) → (List (Int × (List UInt8))) → (List TApiEntry) → Int → (List UInt8) → Int → Option (Sum Unit (((List TApiNode) × (List (Int × (List UInt8))) × (List TApiEntry))))) (path : List UInt8) (deep : Int) (x1 : TApiNode) (x2 : Int) (b : List TApiNode) (b1 : List (Int × (List UInt8))) (b2 : List TApiEntry) : Option (Sum (Int × ((List TApiNode) × (List (Int × (List UInt8))) × (List TApiEntry))) (Sum (((List TApiNode) × (List (Int × (List UInt8))) × (List TApiEntry))) (Sum Unit (((List TApiNode) × (List (Int × (List UInt8))) × (List TApiEntry)))))) :=
(cond (decide (x2 < (x1.Kids.length : Int)))
(Option.bind (idx x1.Kids x2) fun x3 =>
(cond (path == ([] : List UInt8))
(pnE (rec_ b b1 b2 x3.Ino x3.Name 1) (fun r2 =>
(some (.inl ((IntKind.i64.wrap (x2 + 1)), (r2.1, r2.2.1, r2.2.2)))))
(fun thrown => (some (.inr (.inr (.inl ()))))))
(Option.bind (cat path ([47] : List UInt8)) fun z2 =>
(Option.bind (cat z2 x3.Name) fun z3 =>
(pnE (rec_ b b1 b2 x3.Ino z3 (IntKind.i64.wrap (deep + 1))) (fun r3 =>
(some (.inl ((IntKind.i64.wrap (x2 + 1)), (r3.1, r3.2.1, r3.2.2)))))
(fun thrown1 => (some (.inr (.inr (.inl ()))))))))))
(some (.inr (.inl (b, b1, b2)))))
theorem tree_lister_add_l1_le (rec_ : (List TApiNode) → (List (Int × (List UInt8))) → (List TApiEntry) → Int → (List UInt8) → Int → Option (Sum Unit (((List TApiNode) × (List (Int × (List UInt8))) × (List TApiEntry))))) (rec1_ :  (List TApiNode) → (List (Int × (List UInt8))) → (List TApiEntry) → Int → (List UInt8) → Int → Option (Sum Unit (((List TApiNode) × (List (Int × (List UInt8))) × (List TApiEntry))))) (hrec : ∀ a0 a1 a2 a3 a4 a5, Tw (rec_ a0 a1 a2 a3 a4 a5) (rec1_ a0 a1 a2 a3 a4 a5))  (path : List UInt8) (deep : Int) (x1 : TApiNode) (x2 : Int) (b : List TApiNode) (b1 : List (Int × (List UInt8))) (b2 : List TApiEntry) : Tw (tree_lister_add_l1_q rec_ path deep x1 x2 b b1 b2) (tree_lister_add_l1 rec1_ path deep x1 x2 b b1 b2) := by
  unfold tree_lister_add_l1 tree_lister_add_l1_q
  repeat (with_reducible (first | exact Tw.rfl _ | exact hrec | apply hrec | refine Tw.cond _ ?_ ?_ | refine Tw.pn ?_ (fun _ => ?_) (fun _ => ?_) | refine Tw.bnd ?_ fun _ => ?_ | refine Tw.bind ?_ fun _ => ?_ | refine Tw.pull fun _ => ?_ | refine Tw.loop _ _ fun _ => ?_ | refine Tw.alt _ (fun _ => ?_) (fun _ => ?_) | refine Tw.dup _ ?_ | refine Tw.fork ?_ ?_ | refine Tw.map _ ?_))
noncomputable def tree_lister_add_s_q (rec_ : (List TApiNode) → (List (Int × (List UInt8))) → (List TApiEntry) → Int → (List UInt8) → Int → Option (Sum Unit (((List TApiNode) × (List (Int × (List UInt8))) × (List TApiEntry))))) (Nodes : List TApiNode) (first : List (Int × (List UInt8))) (out : List TApiEntry) (ino : Int) (path : List UInt8) (deep : Int) : Option (Sum Unit (((List TApiNode) × (List (Int × (List UInt8))) × (List TApiEntry)))) :=
(bnd ((cond (decide (ino < 0))
(some (.inl true))
(cond (decide (ino ≥ (Nodes.length : Int)))
(some (.inl true))
(cond (decide (deep > 64))
(some (.inl true))
(some (.inl (decide ((out.length : Int) > 16384))))))) : Option (Sum Bool (Sum Unit (((List TApiNode) × (List (Int × (List UInt8))) × (List TApiEntry)))))) fun x =>
(cond x
(some (.inl ()))
(Option.bind (idx Nodes ino) fun x1 =>
(cond ((mget first ino).isSome)
(cond (x1.Kind == 2)
(some (.inl ()))
(Option.bind (app out ([({ Path := path, Kind := 6, Mode := 0, Uid := 0, Gid := 0, Time := 0, Size := 0, Data := [], Target := ((mget first ino).getD ([] : List UInt8)), Dev := 0, Attrs := [] } : TApiEntry)])) fun z =>
some (.inr (Nodes, first, z))))
(bnd ((Option.bind (bytes_Clone x1.Data) fun r =>
(Option.bind (tree_attrs_q x1.Attrs) fun r1 =>
(Option.bind (app out ([({ Path := path, Kind := x1.Kind, Mode := x1.Mode, Uid := x1.Uid, Gid := x1.Gid, Time := x1.Time, Size := x1.Size, Data := r, Target := x1.Target, Dev := x1.Dev, Attrs := r1 } : TApiEntry)])) fun z1 =>
some (.inl (Nodes, (mput first ino path), z1))))) : Option (Sum (((List TApiNode) × (List (Int × (List UInt8))) × (List TApiEntry))) (Sum Unit (((List TApiNode) × (List (Int × (List UInt8))) × (List TApiEntry)))))) fun j =>
(bnd (loopF 60 (fun s => tree_lister_add_l1_q rec_ path deep x1 s.1 s.2.1 s.2.2.1 s.2.2.2) ((0, (j.1, j.2.1, j.2.2)) : Int × ((List TApiNode) × (List (Int × (List UInt8))) × (List TApiEntry)))) fun j1 =>
some (.inr (j1.1, j1.2.1, j1.2.2))))))))
theorem tree_lister_add_s_le (rec_ : (List TApiNode) → (List (Int × (List UInt8))) → (List TApiEntry) → Int → (List UInt8) → Int → Option (Sum Unit (((List TApiNode) × (List (Int × (List UInt8))) × (List TApiEntry))))) (rec1_ :  (List TApiNode) → (List (Int × (List UInt8))) → (List TApiEntry) → Int → (List UInt8) → Int → Option (Sum Unit (((List TApiNode) × (List (Int × (List UInt8))) × (List TApiEntry))))) (hrec : ∀ a0 a1 a2 a3 a4 a5, Tw (rec_ a0 a1 a2 a3 a4 a5) (rec1_ a0 a1 a2 a3 a4 a5))  (Nodes : List TApiNode) (first : List (Int × (List UInt8))) (out : List TApiEntry) (ino : Int) (path : List UInt8) (deep : Int) : Tw (tree_lister_add_s_q rec_ Nodes first out ino path deep) (tree_lister_add_s rec1_ Nodes first out ino path deep) := by
  unfold tree_lister_add_s tree_lister_add_s_q
  try simp only [dup_eq, fork_same]
  repeat (with_reducible (first | exact Tw.rfl _ | apply tree_attrs_le | apply tree_lister_add_l1_le | exact hrec | apply hrec | refine Tw.cond _ ?_ ?_ | refine Tw.pn ?_ (fun _ => ?_) (fun _ => ?_) | refine Tw.bnd ?_ fun _ => ?_ | refine Tw.bind ?_ fun _ => ?_ | refine Tw.pull fun _ => ?_ | refine Tw.loop _ _ fun _ => ?_ | refine Tw.alt _ (fun _ => ?_) (fun _ => ?_) | refine Tw.dup _ ?_ | refine Tw.fork ?_ ?_ | refine Tw.map _ ?_))
noncomputable def tree_lister_add_q : Nat → (List TApiNode) → (List (Int × (List UInt8))) → (List TApiEntry) → Int → (List UInt8) → Int → Option (Sum Unit (((List TApiNode) × (List (Int × (List UInt8))) × (List TApiEntry))))
  | 0 => fun _ _ _ _ _ _ => none
  | n + 1 => tree_lister_add_s_q (tree_lister_add_q n)
theorem tree_lister_add_le : ∀ n a0 a1 a2 a3 a4 a5, Tw (tree_lister_add_q n a0 a1 a2 a3 a4 a5) (tree_lister_add n a0 a1 a2 a3 a4 a5)
  | 0, a0, a1, a2, a3, a4, a5 => Tw.rfl _
  | n + 1, a0, a1, a2, a3, a4, a5 => tree_lister_add_s_le _ _ (fun a0 a1 a2 a3 a4 a5 => tree_lister_add_le n a0 a1 a2 a3 a4 a5) a0 a1 a2 a3 a4 a5
noncomputable def tree_index_q (l : List TApiEntry) : Option (((List TApiEntry) × (List (List UInt8 × Int)) × (List (List UInt8 × Int)) × (List (List UInt8 × Int)))) :=
(bnd (loopF 60 (fun s => tree_index_l1 l s.1 s.2.1 s.2.2.1 s.2.2.2.1 s.2.2.2.2) ((0, (l, ([] : List (List UInt8 × Int)), ([] : List (List UInt8 × Int)), ([] : List (List UInt8 × Int)))) : Int × ((List TApiEntry) × (List (List UInt8 × Int)) × (List (List UInt8 × Int)) × (List (List UInt8 × Int))))) fun j1 =>
some (j1.1, j1.2.1, j1.2.2.1, j1.2.2.2))
theorem tree_index_le (l : List TApiEntry) : Tw (tree_index_q l) (tree_index l) := by
  unfold tree_index tree_index_q
  repeat (with_reducible (first | exact Tw.rfl _ | exact hrec | apply hrec | refine Tw.cond _ ?_ ?_ | refine Tw.pn ?_ (fun _ => ?_) (fun _ => ?_) | refine Tw.bnd ?_ fun _ => ?_ | refine Tw.bind ?_ fun _ => ?_ | refine Tw.pull fun _ => ?_ | refine Tw.loop _ _ fun _ => ?_ | refine Tw.alt _ (fun _ => ?_) (fun _ => ?_) | refine Tw.dup _ ?_ | refine Tw.fork ?_ ?_ | refine Tw.map _ ?_))
noncomputable def strings_genSplit_q (s_ : List UInt8) (sepSave : Int) (n : Int) : Option ((List (List UInt8))) :=
(cond (n == 0)
(some ([]))
(bnd ((cond (decide (n < 0))
(Option.bind (strings_Count s_) fun r =>
some (.inl (IntKind.i64.wrap (r + 1))))
(some (.inl n))) : Option (Sum Int ((List (List UInt8))))) fun n1 =>
(Option.bind (mkz 16 ([] : List UInt8) (if (IntKind.i64.wrap ((s_.length : Int) + 1)) < n1 then (IntKind.i64.wrap ((s_.length : Int) + 1)) else n1)) fun made =>
(bnd (loopF 60 (fun s => strings_genSplit_l1 s_ sepSave n1 s.1 s.2.1 s.2.2) ((s_, made, 0) : (List UInt8) × (List (List UInt8)) × Int)) fun j =>
(Option.bind (idx j.2.1 j.2.2) fun x2 =>
(Option.bind (idx j.2.1 j.2.2) fun x3 =>
(Option.bind (slc (List.set j.2.1 j.2.2.toNat j.1) 0 (IntKind.i64.wrap (j.2.2 + 1))) fun y_2 =>
some y_2)))))))
theorem strings_genSplit_le (s_ : List UInt8) (sepSave : Int) (n : Int) : Tw (strings_genSplit_q s_ sepSave n) (strings_genSplit s_ sepSave n) := by
  unfold strings_genSplit strings_genSplit_q
  repeat (with_reducible (first | exact Tw.rfl _ | exact hrec | apply hrec | refine Tw.cond _ ?_ ?_ | refine Tw.pn ?_ (fun _ => ?_) (fun _ => ?_) | refine Tw.bnd ?_ fun _ => ?_ | refine Tw.bind ?_ fun _ => ?_ | refine Tw.pull fun _ => ?_ | refine Tw.loop _ _ fun _ => ?_ | refine Tw.alt _ (fun _ => ?_) (fun _ => ?_) | refine Tw.dup _ ?_ | refine Tw.fork ?_ ?_ | refine Tw.map _ ?_))
noncomputable def strings_Split_q (s_ : List UInt8) : Option ((List (List UInt8))) :=
(Option.bind (strings_genSplit_q s_ 0 (-1)) fun r =>
some r)
theorem strings_Split_le (s_ : List UInt8) : Tw (strings_Split_q s_) (strings_Split s_) := by
  unfold strings_Split strings_Split_q
  repeat (with_reducible (first | exact Tw.rfl _ | apply strings_genSplit_le | exact hrec | apply hrec | refine Tw.cond _ ?_ ?_ | refine Tw.pn ?_ (fun _ => ?_) (fun _ => ?_) | refine Tw.bnd ?_ fun _ => ?_ | refine Tw.bind ?_ fun _ => ?_ | refine Tw.pull fun _ => ?_ | refine Tw.loop _ _ fun _ => ?_ | refine Tw.alt _ (fun _ => ?_) (fun _ => ?_) | refine Tw.dup _ ?_ | refine Tw.fork ?_ ?_ | refine Tw.map _ ?_))
noncomputable def slices_IndexFunc_string_q (s_ : List (List UInt8)) : Option (Int) :=
(bnd (loopF 60 (fun s => slices_IndexFunc_string_l1 s_ s) (0 : Int)) fun _ =>
some (-1))
theorem slices_IndexFunc_string_le (s_ : List (List UInt8)) : Tw (slices_IndexFunc_string_q s_) (slices_IndexFunc_string s_) := by
  unfold slices_IndexFunc_string slices_IndexFunc_string_q
  repeat (with_reducible (first | exact Tw.rfl _ | exact hrec | apply hrec | refine Tw.cond _ ?_ ?_ | refine Tw.pn ?_ (fun _ => ?_) (fun _ => ?_) | refine Tw.bnd ?_ fun _ => ?_ | refine Tw.bind ?_ fun _ => ?_ | refine Tw.pull fun _ => ?_ | refine Tw.loop _ _ fun _ => ?_ | refine Tw.alt _ (fun _ => ?_) (fun _ => ?_) | refine Tw.dup _ ?_ | refine Tw.fork ?_ ?_ | refine Tw.map _ ?_))
noncomputable def slices_ContainsFunc_string_q (s_ : List (List UInt8)) : Option (Bool) :=
(Option.bind (slices_IndexFunc_string_q s_) fun r =>
some (decide (r ≥ 0)))
theorem slices_ContainsFunc_string_le (s_ : List (List UInt8)) : Tw (slices_ContainsFunc_string_q s_) (slices_ContainsFunc_string s_) := by
  unfold slices_ContainsFunc_string slices_ContainsFunc_string_q
  repeat (with_reducible (first | exact Tw.rfl _ | apply slices_IndexFunc_string_le | exact hrec | apply hrec | refine Tw.cond _ ?_ ?_ | refine Tw.pn ?_ (fun _ => ?_) (fun _ => ?_) | refine Tw.bnd ?_ fun _ => ?_ | refine Tw.bind ?_ fun _ => ?_ | refine Tw.pull fun _ => ?_ | refine Tw.loop _ _ fun _ => ?_ | refine Tw.alt _ (fun _ => ?_) (fun _ => ?_) | refine Tw.dup _ ?_ | refine Tw.fork ?_ ?_ | refine Tw.map _ ?_))
noncomputable def tree_path_q (x : List UInt8) (x1 : Int) (x2 : Int) (x3 : Int) (x4 : Int) (x5 : Int) (x6 : Int) (x7 : List UInt8) (x8 : List UInt8) (x9 : Int) (x10 : List TApiAttr) : Option (Int) :=
(cond (x == ([] : List UInt8))
(cond (x1 != 2)
(some 6)
(some 0))
(cond (decide ((x.length : Int) > 4096))
(some 6)
(Option.bind (strings_Split_q x) fun r =>
(Option.bind (slices_ContainsFunc_string_q r) fun r1 =>
(cond r1
(some 6)
(cond (decide ((r.length : Int) > 128))
(some 6)
(cond (decide ((r.length : Int) > 64))
(some 3)
(some 0))))))))
theorem tree_path_le (x : List UInt8) (x1 : Int) (x2 : Int) (x3 : Int) (x4 : Int) (x5 : Int) (x6 : Int) (x7 : List UInt8) (x8 : List UInt8) (x9 : Int) (x10 : List TApiAttr) : Tw (tree_path_q x x1 x2 x3 x4 x5 x6 x7 x8 x9 x10) (tree_path x x1 x2 x3 x4 x5 x6 x7 x8 x9 x10) := by
  unfold tree_path tree_path_q
  repeat (with_reducible (first | exact Tw.rfl _ | apply strings_Split_le | apply slices_ContainsFunc_string_le | exact hrec | apply hrec | refine Tw.cond _ ?_ ?_ | refine Tw.pn ?_ (fun _ => ?_) (fun _ => ?_) | refine Tw.bnd ?_ fun _ => ?_ | refine Tw.bind ?_ fun _ => ?_ | refine Tw.pull fun _ => ?_ | refine Tw.loop _ _ fun _ => ?_ | refine Tw.alt _ (fun _ => ?_) (fun _ => ?_) | refine Tw.dup _ ?_ | refine Tw.fork ?_ ?_ | refine Tw.map _ ?_))
noncomputable def internal_bytealg_LastIndexByteString_q (s_ : List UInt8) (c : UInt8) : Option (Int) :=
(bnd (loopF 60 (fun s => internal_bytealg_LastIndexByteString_l1 s_ c s) ((IntKind.i64.wrap ((s_.length : Int) - 1)) : Int)) fun _ =>
some (-1))
theorem internal_bytealg_LastIndexByteString_le (s_ : List UInt8) (c : UInt8) : Tw (internal_bytealg_LastIndexByteString_q s_ c) (internal_bytealg_LastIndexByteString s_ c) := by
  unfold internal_bytealg_LastIndexByteString internal_bytealg_LastIndexByteString_q
  repeat (with_reducible (first | exact Tw.rfl _ | exact hrec | apply hrec | refine Tw.cond _ ?_ ?_ | refine Tw.pn ?_ (fun _ => ?_) (fun _ => ?_) | refine Tw.bnd ?_ fun _ => ?_ | refine Tw.bind ?_ fun _ => ?_ | refine Tw.pull fun _ => ?_ | refine Tw.loop _ _ fun _ => ?_ | refine Tw.alt _ (fun _ => ?_) (fun _ => ?_) | refine Tw.dup _ ?_ | refine Tw.fork ?_ ?_ | refine Tw.map _ ?_))
noncomputable def strings_LastIndexByte_q (s_ : List UInt8) (c : UInt8) : Option (Int) :=
(Option.bind (internal_bytealg_LastIndexByteString_q s_ c) fun r =>
some r)
theorem strings_LastIndexByte_le (s_ : List UInt8) (c : UInt8) : Tw (strings_LastIndexByte_q s_ c) (strings_LastIndexByte s_ c) := by
  unfold strings_LastIndexByte strings_LastIndexByte_q
  repeat (with_reducible (first | exact Tw.rfl _ | apply internal_bytealg_LastIndexByteString_le | exact hrec | apply hrec | refine Tw.cond _ ?_ ?_ | refine Tw.pn ?_ (fun _ => ?_) (fun _ => ?_) | refine Tw.bnd ?_ fun _ => ?_ | refine Tw.bind ?_ fun _ => ?_ | refine Tw.pull fun _ => ?_ | refine Tw.loop _ _ fun _ => ?_ | refine Tw.alt _ (fun _ => ?_) (fun _ => ?_) | refine Tw.dup _ ?_ | refine Tw.fork ?_ ?_ | refine Tw.map _ ?_))
noncomputable def tree_above_q (path : List UInt8) : Option ((List UInt8) × Bool) :=
(Option.bind (strings_LastIndexByte_q path (47 : UInt8)) fun r =>
(Option.bind (slc path 0 (if 0 > r then 0 else r)) fun y_ =>
some (y_, (decide (r ≥ 0)))))
theorem tree_above_le (path : List UInt8) : Tw (tree_above_q path) (tree_above path) := by
  unfold tree_above tree_above_q
  repeat (with_reducible (first | exact Tw.rfl _ | apply strings_LastIndexByte_le | exact hrec | apply hrec | refine Tw.cond _ ?_ ?_ | refine Tw.pn ?_ (fun _ => ?_) (fun _ => ?_) | refine Tw.bnd ?_ fun _ => ?_ | refine Tw.bind ?_ fun _ => ?_ | refine Tw.pull fun _ => ?_ | refine Tw.loop _ _ fun _ => ?_ | refine Tw.alt _ (fun _ => ?_) (fun _ => ?_) | refine Tw.dup _ ?_ | refine Tw.fork ?_ ?_ | refine Tw.map _ ?_))
noncomputable def slices_IndexFunc_Attr_q (s_ : List TApiAttr) : Option (Int) :=
(bnd (loopF 60 (fun s => slices_IndexFunc_Attr_l1 s_ s) (0 : Int)) fun _ =>
some (-1))
theorem slices_IndexFunc_Attr_le (s_ : List TApiAttr) : Tw (slices_IndexFunc_Attr_q s_) (slices_IndexFunc_Attr s_) := by
  unfold slices_IndexFunc_Attr slices_IndexFunc_Attr_q
  repeat (with_reducible (first | exact Tw.rfl _ | exact hrec | apply hrec | refine Tw.cond _ ?_ ?_ | refine Tw.pn ?_ (fun _ => ?_) (fun _ => ?_) | refine Tw.bnd ?_ fun _ => ?_ | refine Tw.bind ?_ fun _ => ?_ | refine Tw.pull fun _ => ?_ | refine Tw.loop _ _ fun _ => ?_ | refine Tw.alt _ (fun _ => ?_) (fun _ => ?_) | refine Tw.dup _ ?_ | refine Tw.fork ?_ ?_ | refine Tw.map _ ?_))
noncomputable def slices_ContainsFunc_Attr_q (s_ : List TApiAttr) : Option (Bool) :=
(Option.bind (slices_IndexFunc_Attr_q s_) fun r =>
some (decide (r ≥ 0)))
theorem slices_ContainsFunc_Attr_le (s_ : List TApiAttr) : Tw (slices_ContainsFunc_Attr_q s_) (slices_ContainsFunc_Attr s_) := by
  unfold slices_ContainsFunc_Attr slices_ContainsFunc_Attr_q
  repeat (with_reducible (first | exact Tw.rfl _ | apply slices_IndexFunc_Attr_le | exact hrec | apply hrec | refine Tw.cond _ ?_ ?_ | refine Tw.pn ?_ (fun _ => ?_) (fun _ => ?_) | refine Tw.bnd ?_ fun _ => ?_ | refine Tw.bind ?_ fun _ => ?_ | refine Tw.pull fun _ => ?_ | refine Tw.loop _ _ fun _ => ?_ | refine Tw.alt _ (fun _ => ?_) (fun _ => ?_) | refine Tw.dup _ ?_ | refine Tw.fork ?_ ?_ | refine Tw.map _ ?_))
noncomputable def slices_IndexFunc_Attr_2_q (s_ : List TApiAttr) (f : List UInt8) (f1 : List UInt8) : Option (Int) :=
(bnd (loopF 60 (fun s => slices_IndexFunc_Attr_2_l1 s_ s.1 s.2.1 s.2.2) ((0, (f, f1)) : Int × ((List UInt8) × (List UInt8)))) fun _ =>
some (-1))
theorem slices_IndexFunc_Attr_2_le (s_ : List TApiAttr) (f : List UInt8) (f1 : List UInt8) : Tw (slices_IndexFunc_Attr_2_q s_ f f1) (slices_IndexFunc_Attr_2 s_ f f1) := by
  unfold slices_IndexFunc_Attr_2 slices_IndexFunc_Attr_2_q
  repeat (with_reducible (first | exact Tw.rfl _ | exact hrec | apply hrec | refine Tw.cond _ ?_ ?_ | refine Tw.pn ?_ (fun _ => ?_) (fun _ => ?_) | refine Tw.bnd ?_ fun _ => ?_ | refine Tw.bind ?_ fun _ => ?_ | refine Tw.pull fun _ => ?_ | refine Tw.loop _ _ fun _ => ?_ | refine Tw.alt _ (fun _ => ?_) (fun _ => ?_) | refine Tw.dup _ ?_ | refine Tw.fork ?_ ?_ | refine Tw.map _ ?_))
noncomputable def slices_ContainsFunc_Attr_2_q (s_ : List TApiAttr) (f : List UInt8) (f1 : List UInt8) : Option (Bool) :=
(Option.bind (slices_IndexFunc_Attr_2_q s_ f f1) fun r =>
some (decide (r ≥ 0)))
theorem slices_ContainsFunc_Attr_2_le (s_ : List TApiAttr) (f : List UInt8) (f1 : List UInt8) : Tw (slices_ContainsFunc_Attr_2_q s_ f f1) (slices_ContainsFunc_Attr_2 s_ f f1) := by
  unfold slices_ContainsFunc_Attr_2 slices_ContainsFunc_Attr_2_q
  repeat (with_reducible (first | exact Tw.rfl _ | apply slices_IndexFunc_Attr_2_le | exact hrec | apply hrec | refine Tw.cond _ ?_ ?_ | refine Tw.pn ?_ (fun _ => ?_) (fun _ => ?_) | refine Tw.bnd ?_ fun _ => ?_ | refine Tw.bind ?_ fun _ => ?_ | refine Tw.pull fun _ => ?_ | refine Tw.loop _ _ fun _ => ?_ | refine Tw.alt _ (fun _ => ?_) (fun _ => ?_) | refine Tw.dup _ ?_ | refine Tw.fork ?_ ?_ | refine Tw.map _ ?_))
noncomputable def tree_fields_l1_q (x10 : List TApiAttr) (x13 : Int) : Option (Sum Int (Sum Unit Int)) :=
(cond (decide (x13 < (x10.length : Int)))
(Option.bind (idx x10 x13) fun x14 =>
(Option.bind (slc x10 0 x13) fun y_ =>
(Option.bind (slices_ContainsFunc_Attr_2_q y_ x14.Name x14.Value) fun r8 =>
(cond r8
(some (.inr (.inr 110)))
(some (.inl (IntKind.i64.wrap (x13 + 1))))))))
(some (.inr (.inl ()))))
theorem tree_fields_l1_le (x10 : List TApiAttr) (x13 : Int) : Tw (tree_fields_l1_q x10 x13) (tree_fields_l1 x10 x13) := by
  unfold tree_fields_l1 tree_fields_l1_q
  repeat (with_reducible (first | exact Tw.rfl _ | apply slices_ContainsFunc_Attr_2_le | exact hrec | apply hrec | refine Tw.cond _ ?_ ?_ | refine Tw.pn ?_ (fun _ => ?_) (fun _ => ?_) | refine Tw.bnd ?_ fun _ => ?_ | refine Tw.bind ?_ fun _ => ?_ | refine Tw.pull fun _ => ?_ | refine Tw.loop _ _ fun _ => ?_ | refine Tw.alt _ (fun _ => ?_) (fun _ => ?_) | refine Tw.dup _ ?_ | refine Tw.fork ?_ ?_ | refine Tw.map _ ?_))
noncomputable def tree_fields_q (x : List UInt8) (x1 : Int) (x2 : Int) (x3 : Int) (x4 : Int) (x5 : Int) (x6 : Int) (x7 : List UInt8) (x8 : List UInt8) (x9 : Int) (x10 : List TApiAttr) : Option (Int) :=
(bnd ((Option.bind (tree_between x2 0 4095) fun r =>
(cond r
(Option.bind (tree_between x3 0 4294967295) fun r1 =>
(cond r1
(Option.bind (tree_between x4 0 4294967295) fun r2 =>
(cond r2
(Option.bind (tree_between x5 0 4294967295) fun r3 =>
some (.inl r3))
(some (.inl false))))
(some (.inl false))))
(some (.inl false)))) : Option (Sum Bool Int)) fun right =>
(bnd ((cond (x1 == 1)
(bnd ((cond right
(Option.bind (tree_between x6 (x7.length : Int) 1099511627775) fun r4 =>
some (.inl r4))
(some (.inl false))) : Option (Sum Bool (Sum Bool Int))) fun right1 =>
some (.inl right1))
(bnd ((cond (x1 == 3)
(bnd ((cond right
(Option.bind (tree_text x8 1 4096) fun r5 =>
some (.inl r5))
(some (.inl false))) : Option (Sum Bool (Sum Bool (Sum Bool Int)))) fun right2 =>
some (.inl right2))
(bnd ((cond (x1 == 4)
(some (.inl true))
(some (.inl (x1 == 5)))) : Option (Sum Bool (Sum Bool (Sum Bool Int)))) fun x11 =>
(bnd ((cond x11
(bnd ((cond right
(Option.bind (tree_between x9 0 4294967295) fun r6 =>
some (.inl r6))
(some (.inl false))) : Option (Sum Bool (Sum Bool (Sum Bool (Sum Bool Int))))) fun right3 =>
some (.inl right3))
(some (.inl right))) : Option (Sum Bool (Sum Bool (Sum Bool Int)))) fun right4 =>
some (.inl right4)))) : Option (Sum Bool (Sum Bool Int))) fun right5 =>
some (.inl right5))) : Option (Sum Bool Int)) fun right6 =>
(bnd ((cond right6
(some (.inl (decide ((x10.length : Int) ≤ 64))))
(some (.inl false))) : Option (Sum Bool Int)) fun right7 =>
(bnd ((cond (!right7)
(some (.inl true))
(Option.bind (slices_ContainsFunc_Attr_q x10) fun r7 =>
some (.inl r7))) : Option (Sum Bool Int)) fun x12 =>
(cond x12
(some 1)
(bnd (loopF 60 (fun s => tree_fields_l1_q x10 s) (0 : Int)) fun _ =>
some 0))))))
theorem tree_fields_le (x : List UInt8) (x1 : Int) (x2 : Int) (x3 : Int) (x4 : Int) (x5 : Int) (x6 : Int) (x7 : List UInt8) (x8 : List UInt8) (x9 : Int) (x10 : List TApiAttr) : Tw (tree_fields_q x x1 x2 x3 x4 x5 x6 x7 x8 x9 x10) (tree_fields x x1 x2 x3 x4 x5 x6 x7 x8 x9 x10) := by
  unfold tree_fields tree_fields_q
  repeat (with_reducible (first | exact Tw.rfl _ | apply slices_ContainsFunc_Attr_le | apply tree_fields_l1_le | exact hrec | apply hrec | refine Tw.cond _ ?_ ?_ | refine Tw.pn ?_ (fun _ => ?_) (fun _ => ?_) | refine Tw.bnd ?_ fun _ => ?_ | refine Tw.bind ?_ fun _ => ?_ | refine Tw.pull fun _ => ?_ | refine Tw.loop _ _ fun _ => ?_ | refine Tw.alt _ (fun _ => ?_) (fun _ => ?_) | refine Tw.dup _ ?_ | refine Tw.fork ?_ ?_ | refine Tw.map _ ?_))
noncomputable def tree_checker_entry_q (l : List TApiEntry) (first : List (List UInt8 × Int)) (dirs : List (List UInt8 × Int)) (nodes : List (List UInt8 × Int)) (i : Int) : Option (Int × ((List TApiEntry) × (List (List UInt8 × Int)) × (List (List UInt8 × Int)) × (List (List UInt8 × Int)))) :=
(Option.bind (idx l i) fun x =>
(Option.bind (tree_between x.Kind 1 6) fun r =>
(cond (!r)
(some (8, (l, first, dirs, nodes)))
(Option.bind (tree_path_q x.Path x.Kind x.Mode x.Uid x.Gid x.Time x.Size x.Data x.Target x.Dev x.Attrs) fun r1 =>
(cond (r1 != 0)
(some (r1, (l, first, dirs, nodes)))
(cond (decide (((mget first x.Path).getD 0) < i))
(some (110, (l, first, dirs, nodes)))
(Option.bind (tree_above_q x.Path) fun r2 =>
(bnd ((cond r2.2
(some (.inl (((mget dirs r2.1).getD 0) == 0)))
(some (.inl false))) : Option (Sum Bool (Int × ((List TApiEntry) × (List (List UInt8 × Int)) × (List (List UInt8 × Int)) × (List (List UInt8 × Int)))))) fun x1 =>
(cond x1
(some (4, (l, first, dirs, nodes)))
(cond (x.Kind == 6)
(cond (((mget nodes x.Target).getD 0) == 0)
(some (4, (l, first, dirs, nodes)))
(some (0, (l, first, dirs, nodes))))
(Option.bind (tree_fields_q x.Path x.Kind x.Mode x.Uid x.Gid x.Time x.Size x.Data x.Target x.Dev x.Attrs) fun r3 =>
some (r3, (l, first, dirs, nodes)))))))))))))
theorem tree_checker_entry_le (l : List TApiEntry) (first : List (List UInt8 × Int)) (dirs : List (List UInt8 × Int)) (nodes : List (List UInt8 × Int)) (i : Int) : Tw (tree_checker_entry_q l first dirs nodes i) (tree_checker_entry l first dirs nodes i) := by
  unfold tree_checker_entry tree_checker_entry_q
  repeat (with_reducible (first | exact Tw.rfl _ | apply tree_path_le | apply tree_above_le | apply tree_fields_le | exact hrec | apply hrec | refine Tw.cond _ ?_ ?_ | refine Tw.pn ?_ (fun _ => ?_) (fun _ => ?_) | refine Tw.bnd ?_ fun _ => ?_ | refine Tw.bind ?_ fun _ => ?_ | refine Tw.pull fun _ => ?_ | refine Tw.loop _ _ fun _ => ?_ | refine Tw.alt _ (fun _ => ?_) (fun _ => ?_) | refine Tw.dup _ ?_ | refine Tw.fork ?_ ?_ | refine Tw.map _ ?_))
noncomputable def tree_Check_l2_q (l : List TApiEntry) (x3 : Int) (b : List TApiEntry) (b1 : List (List UInt8 × Int)) (b2 : List (List UInt8 × Int)) (b3 : List (List UInt8 × Int)) : Option (Sum (Int × ((List TApiEntry) × (List (List UInt8 × Int)) × (List (List UInt8 × Int)) × (List (List UInt8 × Int)))) (Sum Unit (Int × Int))) :=
(cond (decide (x3 < (l.length : Int)))
(Option.bind (tree_checker_entry_q b b1 b2 b3 x3) fun r1 =>
(cond (r1.1 != 0)
(some (.inr (.inr (x3, r1.1))))
(some (.inl ((IntKind.i64.wrap (x3 + 1)), (r1.2.1, r1.2.2.1, r1.2.2.2.1, r1.2.2.2.2))))))
(some (.inr (.inl ()))))
theorem tree_Check_l2_le (l : List TApiEntry) (x3 : Int) (b : List TApiEntry) (b1 : List (List UInt8 × Int)) (b2 : List (List UInt8 × Int)) (b3 : List (List UInt8 × Int)) : Tw (tree_Check_l2_q l x3 b b1 b2 b3) (tree_Check_l2 l x3 b b1 b2 b3) := by
  unfold tree_Check_l2 tree_Check_l2_q
  repeat (with_reducible (first | exact Tw.rfl _ | apply tree_checker_entry_le | exact hrec | apply hrec | refine Tw.cond _ ?_ ?_ | refine Tw.pn ?_ (fun _ => ?_) (fun _ => ?_) | refine Tw.bnd ?_ fun _ => ?_ | refine Tw.bind ?_ fun _ => ?_ | refine Tw.pull fun _ => ?_ | refine Tw.loop _ _ fun _ => ?_ | refine Tw.alt _ (fun _ => ?_) (fun _ => ?_) | refine Tw.dup _ ?_ | refine Tw.fork ?_ ?_ | refine Tw.map _ ?_))
noncomputable def tree_Check_q (l : List TApiEntry) : Option (Int × Int) :=
(cond (decide ((l.length : Int) > 16384))
(some (0, 3))
(bnd (loopF 60 (fun s => tree_Check_l1 l s.1 s.2) ((8388608, 0) : Int × Int)) fun _ =>
(Option.bind (tree_index_q l) fun r =>
(bnd (loopF 60 (fun s => tree_Check_l2_q l s.1 s.2.1 s.2.2.1 s.2.2.2.1 s.2.2.2.2) ((0, (r.1, r.2.1, r.2.2.1, r.2.2.2)) : Int × ((List TApiEntry) × (List (List UInt8 × Int)) × (List (List UInt8 × Int)) × (List (List UInt8 × Int))))) fun _ =>
some (0, 0)))))
theorem tree_Check_le (l : List TApiEntry) : Tw (tree_Check_q l) (tree_Check l) := by
  unfold tree_Check tree_Check_q
  repeat (with_reducible (first | exact Tw.rfl _ | apply tree_index_le | apply tree_Check_l2_le | exact hrec | apply hrec | refine Tw.cond _ ?_ ?_ | refine Tw.pn ?_ (fun _ => ?_) (fun _ => ?_) | refine Tw.bnd ?_ fun _ => ?_ | refine Tw.bind ?_ fun _ => ?_ | refine Tw.pull fun _ => ?_ | refine Tw.loop _ _ fun _ => ?_ | refine Tw.alt _ (fun _ => ?_) (fun _ => ?_) | refine Tw.dup _ ?_ | refine Tw.fork ?_ ?_ | refine Tw.map _ ?_))
noncomputable def slices_IndexFunc_Entry_q (s_ : List TApiEntry) : Option (Int) :=
(bnd (loopF 60 (fun s => slices_IndexFunc_Entry_l1 s_ s) (0 : Int)) fun _ =>
some (-1))
theorem slices_IndexFunc_Entry_le (s_ : List TApiEntry) : Tw (slices_IndexFunc_Entry_q s_) (slices_IndexFunc_Entry s_) := by
  unfold slices_IndexFunc_Entry slices_IndexFunc_Entry_q
  repeat (with_reducible (first | exact Tw.rfl _ | exact hrec | apply hrec | refine Tw.cond _ ?_ ?_ | refine Tw.pn ?_ (fun _ => ?_) (fun _ => ?_) | refine Tw.bnd ?_ fun _ => ?_ | refine Tw.bind ?_ fun _ => ?_ | refine Tw.pull fun _ => ?_ | refine Tw.loop _ _ fun _ => ?_ | refine Tw.alt _ (fun _ => ?_) (fun _ => ?_) | refine Tw.dup _ ?_ | refine Tw.fork ?_ ?_ | refine Tw.map _ ?_))
noncomputable def tree_root_q (l : List TApiEntry) : Option (((List UInt8) × Int × Int × Int × Int × Int × Int × (List UInt8) × (List UInt8) × Int × (List TApiAttr))) :=
(Option.bind (slices_IndexFunc_Entry_q l) fun r =>
(cond (decide (r < 0))
(some (([] : List UInt8), 2, 493, 0, 0, 0, 0, [], ([] : List UInt8), 0, []))
(Option.bind (idx l r) fun x =>
some (x.Path, x.Kind, x.Mode, x.Uid, x.Gid, x.Time, x.Size, x.Data, x.Target, x.Dev, x.Attrs))))
theorem tree_root_le (l : List TApiEntry) : Tw (tree_root_q l) (tree_root l) := by
  unfold tree_root tree_root_q
  repeat (with_reducible (first | exact Tw.rfl _ | apply slices_IndexFunc_Entry_le | exact hrec | apply hrec | refine Tw.cond _ ?_ ?_ | refine Tw.pn ?_ (fun _ => ?_) (fun _ => ?_) | refine Tw.bnd ?_ fun _ => ?_ | refine Tw.bind ?_ fun _ => ?_ | refine Tw.pull fun _ => ?_ | refine Tw.loop _ _ fun _ => ?_ | refine Tw.alt _ (fun _ => ?_) (fun _ => ?_) | refine Tw.dup _ ?_ | refine Tw.fork ?_ ?_ | refine Tw.map _ ?_))
noncomputable def bytes_trimRightByte_q (s_ : List UInt8) (c : UInt8) : Option ((List UInt8)) :=
(bnd (loopF 60 (fun s => bytes_trimRightByte_l1 c s) (s_ : (List UInt8))) fun s_2 =>
some s_2)
theorem bytes_trimRightByte_le (s_ : List UInt8) (c : UInt8) : Tw (bytes_trimRightByte_q s_ c) (bytes_trimRightByte s_ c) := by
  unfold bytes_trimRightByte bytes_trimRightByte_q
  repeat (with_reducible (first | exact Tw.rfl _ | exact hrec | apply hrec | refine Tw.cond _ ?_ ?_ | refine Tw.pn ?_ (fun _ => ?_) (fun _ => ?_) | refine Tw.bnd ?_ fun _ => ?_ | refine Tw.bind ?_ fun _ => ?_ | refine Tw.pull fun _ => ?_ | refine Tw.loop _ _ fun _ => ?_ | refine Tw.alt _ (fun _ => ?_) (fun _ => ?_) | refine Tw.dup _ ?_ | refine Tw.fork ?_ ?_ | refine Tw.map _ ?_))
noncomputable def bytes_TrimRight_q (s_ : List UInt8) : Option ((List UInt8)) :=
(bnd ((cond ((s_.length : Int) == 0)
(some (.inl true))
(some (.inl false))) : Option (Sum Bool ((List UInt8)))) fun x =>
(cond x
(some s_)
(Option.bind (bytes_trimRightByte_q s_ (0 : UInt8)) fun r =>
some r)))
theorem bytes_TrimRight_le (s_ : List UInt8) : Tw (bytes_TrimRight_q s_) (bytes_TrimRight s_) := by
  unfold bytes_TrimRight bytes_TrimRight_q
  repeat (with_reducible (first | exact Tw.rfl _ | apply bytes_trimRightByte_le | exact hrec | apply hrec | refine Tw.cond _ ?_ ?_ | refine Tw.pn ?_ (fun _ => ?_) (fun _ => ?_) | refine Tw.bnd ?_ fun _ => ?_ | refine Tw.bind ?_ fun _ => ?_ | refine Tw.pull fun _ => ?_ | refine Tw.loop _ _ fun _ => ?_ | refine Tw.alt _ (fun _ => ?_) (fun _ => ?_) | refine Tw.dup _ ?_ | refine Tw.fork ?_ ?_ | refine Tw.map _ ?_))
noncomputable def tree_node_q (x : List UInt8) (x1 : Int) (x2 : Int) (x3 : Int) (x4 : Int) (x5 : Int) (x6 : Int) (x7 : List UInt8) (x8 : List UInt8) (x9 : Int) (x10 : List TApiAttr) : Option ((Int × Int × Int × Int × Int × Int × (List UInt8) × (List UInt8) × Int × (List TApiAttr) × (List TApiKid) × Int × Int)) :=
(bnd ((Option.bind (tree_attrs_q x10) fun r =>
some (.inl (x1, x2, x3, x4, x5, 0, [], ([] : List UInt8), 0, r, [], 0, 0))) : Option (Sum ((Int × Int × Int × Int × Int × Int × (List UInt8) × (List UInt8) × Int × (List TApiAttr) × (List TApiKid) × Int × Int)) ((Int × Int × Int × Int × Int × Int × (List UInt8) × (List UInt8) × Int × (List TApiAttr) × (List TApiKid) × Int × Int)))) fun j =>
(cond (x1 == 1)
(Option.bind (bytes_TrimRight_q x7) fun r1 =>
(Option.bind (bytes_Clone r1) fun r2 =>
some (j.1, j.2.1, j.2.2.1, j.2.2.2.1, j.2.2.2.2.1, x6, r2, j.2.2.2.2.2.2.2.1, j.2.2.2.2.2.2.2.2.1, j.2.2.2.2.2.2.2.2.2.1, j.2.2.2.2.2.2.2.2.2.2.1, j.2.2.2.2.2.2.2.2.2.2.2.1, j.2.2.2.2.2.2.2.2.2.2.2.2)))
(cond (x1 == 2)
(some (j.1, j.2.1, j.2.2.1, j.2.2.2.1, j.2.2.2.2.1, j.2.2.2.2.2.1, j.2.2.2.2.2.2.1, j.2.2.2.2.2.2.2.1, j.2.2.2.2.2.2.2.2.1, j.2.2.2.2.2.2.2.2.2.1, j.2.2.2.2.2.2.2.2.2.2.1, j.2.2.2.2.2.2.2.2.2.2.2.1, 2))
(cond (x1 == 3)
(some (j.1, j.2.1, j.2.2.1, j.2.2.2.1, j.2.2.2.2.1, j.2.2.2.2.2.1, j.2.2.2.2.2.2.1, x8, j.2.2.2.2.2.2.2.2.1, j.2.2.2.2.2.2.2.2.2.1, j.2.2.2.2.2.2.2.2.2.2.1, j.2.2.2.2.2.2.2.2.2.2.2.1, j.2.2.2.2.2.2.2.2.2.2.2.2))
(some (j.1, j.2.1, j.2.2.1, j.2.2.2.1, j.2.2.2.2.1, j.2.2.2.2.2.1, j.2.2.2.2.2.2.1, j.2.2.2.2.2.2.2.1, x9, j.2.2.2.2.2.2.2.2.2.1, j.2.2.2.2.2.2.2.2.2.2.1, j.2.2.2.2.2.2.2.2.2.2.2.1, j.2.2.2.2.2.2.2.2.2.2.2.2))))))
theorem tree_node_le (x : List UInt8) (x1 : Int) (x2 : Int) (x3 : Int) (x4 : Int) (x5 : Int) (x6 : Int) (x7 : List UInt8) (x8 : List UInt8) (x9 : Int) (x10 : List TApiAttr) : Tw (tree_node_q x x1 x2 x3 x4 x5 x6 x7 x8 x9 x10) (tree_node x x1 x2 x3 x4 x5 x6 x7 x8 x9 x10) := by
  unfold tree_node tree_node_q
  try simp only [dup_eq, fork_same]
  repeat (with_reducible (first | exact Tw.rfl _ | apply tree_attrs_le | apply bytes_TrimRight_le | exact hrec | apply hrec | refine Tw.cond _ ?_ ?_ | refine Tw.pn ?_ (fun _ => ?_) (fun _ => ?_) | refine Tw.bnd ?_ fun _ => ?_ | refine Tw.bind ?_ fun _ => ?_ | refine Tw.pull fun _ => ?_ | refine Tw.loop _ _ fun _ => ?_ | refine Tw.alt _ (fun _ => ?_) (fun _ => ?_) | refine Tw.dup _ ?_ | refine Tw.fork ?_ ?_ | refine Tw.map _ ?_))
noncomputable def slices_Compare_string_q (s1 : List (List UInt8)) (s2 : List (List UInt8)) : Option (Int) :=
(bnd (loopF 60 (fun s => slices_Compare_string_l1 s1 s2 s) (0 : Int)) fun _ =>
(cond (decide ((s1.length : Int) < (s2.length : Int)))
(some (-1))
(some 0)))
theorem slices_Compare_string_le (s1 : List (List UInt8)) (s2 : List (List UInt8)) : Tw (slices_Compare_string_q s1 s2) (slices_Compare_string s1 s2) := by
  unfold slices_Compare_string slices_Compare_string_q
  repeat (with_reducible (first | exact Tw.rfl _ | exact hrec | apply hrec | refine Tw.cond _ ?_ ?_ | refine Tw.pn ?_ (fun _ => ?_) (fun _ => ?_) | refine Tw.bnd ?_ fun _ => ?_ | refine Tw.bind ?_ fun _ => ?_ | refine Tw.pull fun _ => ?_ | refine Tw.loop _ _ fun _ => ?_ | refine Tw.alt _ (fun _ => ?_) (fun _ => ?_) | refine Tw.dup _ ?_ | refine Tw.fork ?_ ?_ | refine Tw.map _ ?_))
noncomputable def name_Order_q (a : List (List UInt8)) (b : List (List UInt8)) : Option (Int) :=
(Option.bind (slices_Compare_string_q a b) fun r =>
some r)
theorem name_Order_le (a : List (List UInt8)) (b : List (List UInt8)) : Tw (name_Order_q a b) (name_Order a b) := by
  unfold name_Order name_Order_q
  repeat (with_reducible (first | exact Tw.rfl _ | apply slices_Compare_string_le | exact hrec | apply hrec | refine Tw.cond _ ?_ ?_ | refine Tw.pn ?_ (fun _ => ?_) (fun _ => ?_) | refine Tw.bnd ?_ fun _ => ?_ | refine Tw.bind ?_ fun _ => ?_ | refine Tw.pull fun _ => ?_ | refine Tw.loop _ _ fun _ => ?_ | refine Tw.alt _ (fun _ => ?_) (fun _ => ?_) | refine Tw.dup _ ?_ | refine Tw.fork ?_ ?_ | refine Tw.map _ ?_))
noncomputable def tree_names_1_q (a : List (List UInt8)) (a1 : List UInt8) (a2 : List UInt8) (b : List (List UInt8)) (b1 : List UInt8) (b2 : List UInt8) : Option (Int) :=
(Option.bind (name_Order_q a b) fun r =>
some r)
theorem tree_names_1_le (a : List (List UInt8)) (a1 : List UInt8) (a2 : List UInt8) (b : List (List UInt8)) (b1 : List UInt8) (b2 : List UInt8) : Tw (tree_names_1_q a a1 a2 b b1 b2) (tree_names_1 a a1 a2 b b1 b2) := by
  unfold tree_names_1 tree_names_1_q
  repeat (with_reducible (first | exact Tw.rfl _ | apply name_Order_le | exact hrec | apply hrec | refine Tw.cond _ ?_ ?_ | refine Tw.pn ?_ (fun _ => ?_) (fun _ => ?_) | refine Tw.bnd ?_ fun _ => ?_ | refine Tw.bind ?_ fun _ => ?_ | refine Tw.pull fun _ => ?_ | refine Tw.loop _ _ fun _ => ?_ | refine Tw.alt _ (fun _ => ?_) (fun _ => ?_) | refine Tw.dup _ ?_ | refine Tw.fork ?_ ?_ | refine Tw.map _ ?_))
noncomputable def sort_Named_q (l : List TTreeNamed) : Option (List TTreeNamed) :=
sortBy (fun x y => tree_names_1_q x.f_parts x.f_path x.f_of y.f_parts y.f_path y.f_of) l
theorem sort_Named_le (l : List TTreeNamed) : Tw (sort_Named_q l) (sort_Named l) := by
  unfold sort_Named sort_Named_q
  repeat (with_reducible (first | exact Tw.rfl _ | apply tree_names_1_le | exact hrec | apply hrec | refine Tw.cond _ ?_ ?_ | refine Tw.pn ?_ (fun _ => ?_) (fun _ => ?_) | refine Tw.bnd ?_ fun _ => ?_ | refine Tw.bind ?_ fun _ => ?_ | refine Tw.pull fun _ => ?_ | refine Tw.loop _ _ fun _ => ?_ | refine Tw.alt _ (fun _ => ?_) (fun _ => ?_) | refine Tw.dup _ ?_ | refine Tw.fork ?_ ?_ | refine Tw.map _ ?_ | refine Tw.sort _ fun _ _ => ?_))
noncomputable def tree_names_l1_q (l : List TApiEntry) (out : List TTreeNamed) (x : Int) : Option (Sum ((List TTreeNamed) × Int) (Sum ((List TTreeNamed)) ((List TTreeNamed)))) :=
(cond (decide (x < (l.length : Int)))
(Option.bind (idx l x) fun x1 =>
(cond (x1.Path == ([] : List UInt8))
(some (.inl (out, (IntKind.i64.wrap (x + 1)))))
(bnd ((Option.bind (strings_Split_q x1.Path) fun r =>
some (.inl (r, x1.Path, x1.Path))) : Option (Sum (((List (List UInt8)) × (List UInt8) × (List UInt8))) (Sum ((List TTreeNamed) × Int) (Sum ((List TTreeNamed)) ((List TTreeNamed)))))) fun j =>
(cond (x1.Kind == 6)
(Option.bind (app out ([({ f_parts := j.1, f_path := j.2.1, f_of := x1.Target } : TTreeNamed)])) fun z =>
some (.inl (z, (IntKind.i64.wrap (x + 1)))))
(Option.bind (app out ([({ f_parts := j.1, f_path := j.2.1, f_of := j.2.2 } : TTreeNamed)])) fun z1 =>
some (.inl (z1, (IntKind.i64.wrap (x + 1)))))))))
(some (.inr (.inl out))))
theorem tree_names_l1_le (l : List TApiEntry) (out : List TTreeNamed) (x : Int) : Tw (tree_names_l1_q l out x) (tree_names_l1 l out x) := by
  unfold tree_names_l1 tree_names_l1_q
  try simp only [dup_eq, fork_same]
  repeat (with_reducible (first | exact Tw.rfl _ | apply strings_Split_le | exact hrec | apply hrec | refine Tw.cond _ ?_ ?_ | refine Tw.pn ?_ (fun _ => ?_) (fun _ => ?_) | refine Tw.bnd ?_ fun _ => ?_ | refine Tw.bind ?_ fun _ => ?_ | refine Tw.pull fun _ => ?_ | refine Tw.loop _ _ fun _ => ?_ | refine Tw.alt _ (fun _ => ?_) (fun _ => ?_) | refine Tw.dup _ ?_ | refine Tw.fork ?_ ?_ | refine Tw.map _ ?_))
noncomputable def tree_names_q (l : List TApiEntry) : Option ((List TTreeNamed)) :=
(bnd (loopF 60 (fun s => tree_names_l1_q l s.1 s.2) (([], 0) : (List TTreeNamed) × Int)) fun out1 =>
(Option.bind (sort_Named_q out1) fun r1 =>
some r1))
theorem tree_names_le (l : List TApiEntry) : Tw (tree_names_q l) (tree_names l) := by
  unfold tree_names tree_names_q
  repeat (with_reducible (first | exact Tw.rfl _ | apply sort_Named_le | apply tree_names_l1_le | exact hrec | apply hrec | refine Tw.cond _ ?_ ?_ | refine Tw.pn ?_ (fun _ => ?_) (fun _ => ?_) | refine Tw.bnd ?_ fun _ => ?_ | refine Tw.bind ?_ fun _ => ?_ | refine Tw.pull fun _ => ?_ | refine Tw.loop _ _ fun _ => ?_ | refine Tw.alt _ (fun _ => ?_) (fun _ => ?_) | refine Tw.dup _ ?_ | refine Tw.fork ?_ ?_ | refine Tw.map _ ?_))
noncomputable def tree_Canon_l1_q (l : List TApiEntry) (r1 : ((List TApiEntry) × (List (List UInt8 × Int)) × (List (List UInt8 × Int)) × (List (List UInt8 × Int)))) (r4 : (List TTreeNamed)) (inos : List (List UInt8 × Int)) (x : Int) (b : List TApiNode) : Option (Sum ((List (List UInt8 × Int)) × Int × ((List TApiNode))) (Sum (((List TApiNode))) (((List TApiNode)) × Int))) :=
(cond (decide (x < (r4.length : Int)))
(Option.bind (idx r4 x) fun x1 =>
(Option.bind (idx r4 x) fun x2 =>
(bnd ((cond (!(mget inos x2.f_of).isSome)
(bnd ((Option.bind (idx l ((mget r1.2.1 x2.f_of).getD 0)) fun x3 =>
(Option.bind (tree_node_q x3.Path x3.Kind x3.Mode x3.Uid x3.Gid x3.Time x3.Size x3.Data x3.Target x3.Dev x3.Attrs) fun r5 =>
(Option.bind (app b [{ ({ Kind := r5.1, Mode := r5.2.1, Uid := r5.2.2.1, Gid := r5.2.2.2.1, Time := r5.2.2.2.2.1, Size := r5.2.2.2.2.2.1, Data := r5.2.2.2.2.2.2.1, Target := r5.2.2.2.2.2.2.2.1, Dev := r5.2.2.2.2.2.2.2.2.1, Attrs := r5.2.2.2.2.2.2.2.2.2.1, Kids := [], Parent := r5.2.2.2.2.2.2.2.2.2.2.2.1, Links := r5.2.2.2.2.2.2.2.2.2.2.2.2 } : TApiNode) with Kids := r5.2.2.2.2.2.2.2.2.2.2.1 }]) fun z =>
some (.inl z)))) : Option (Sum (((List TApiNode))) (Sum ((List (List UInt8 × Int)) × Int × ((List TApiNode))) (Sum ((List (List UInt8 × Int)) × Int × ((List TApiNode))) (Sum (((List TApiNode))) (((List TApiNode)) × Int)))))) fun j =>
some (.inl ((mput inos x2.f_of (b.length : Int)), (b.length : Int), j)))
(some (.inl (inos, ((mget inos x2.f_of).getD 0), b)))) : Option (Sum ((List (List UInt8 × Int)) × Int × ((List TApiNode))) (Sum ((List (List UInt8 × Int)) × Int × ((List TApiNode))) (Sum (((List TApiNode))) (((List TApiNode)) × Int))))) fun j1 =>
(Option.bind (tree_above_q x2.f_path) fun r6 =>
(bnd ((Option.bind (idx x2.f_parts (IntKind.i64.wrap ((x2.f_parts.length : Int) - 1))) fun x4 =>
(Option.bind (idx j1.2.2 ((mget j1.1 r6.1).getD 0)) fun x5 =>
(Option.bind (idx j1.2.2 ((mget j1.1 r6.1).getD 0)) fun x6 =>
(Option.bind (app x6.Kids ([({ Name := x4, Ino := j1.2.1 } : TApiKid)])) fun z1 =>
(Option.bind (idx j1.2.2 ((mget j1.1 r6.1).getD 0)) fun x7 =>
(Option.bind (chk (decide (((mget j1.1 r6.1).getD 0) = ((mget j1.1 r6.1).getD 0)))) fun _ =>
some (.inl (List.set j1.2.2 (((mget j1.1 r6.1).getD 0).toNat) { x6 with Kids := z1 })))))))) : Option (Sum (((List TApiNode))) (Sum ((List (List UInt8 × Int)) × Int × ((List TApiNode))) (Sum (((List TApiNode))) (((List TApiNode)) × Int))))) fun j2 =>
(Option.bind (idx j2 j1.2.1) fun x8 =>
(Option.bind (idx j2 j1.2.1) fun x9 =>
(cond (x9.Kind == 2)
(Option.bind (idx j2 j1.2.1) fun x10 =>
(Option.bind (idx j2 j1.2.1) fun x11 =>
(Option.bind (idx (List.set j2 j1.2.1.toNat ({ Kind := x11.Kind, Mode := x11.Mode, Uid := x11.Uid, Gid := x11.Gid, Time := x11.Time, Size := x11.Size, Data := x11.Data, Target := x11.Target, Dev := x11.Dev, Attrs := x11.Attrs, Kids := x11.Kids, Parent := ((mget j1.1 r6.1).getD 0), Links := x11.Links } : TApiNode)) ((mget j1.1 r6.1).getD 0)) fun x12 =>
(Option.bind (idx (List.set j2 j1.2.1.toNat ({ Kind := x11.Kind, Mode := x11.Mode, Uid := x11.Uid, Gid := x11.Gid, Time := x11.Time, Size := x11.Size, Data := x11.Data, Target := x11.Target, Dev := x11.Dev, Attrs := x11.Attrs, Kids := x11.Kids, Parent := ((mget j1.1 r6.1).getD 0), Links := x11.Links } : TApiNode)) ((mget j1.1 r6.1).getD 0)) fun x13 =>
(Option.bind (idx (List.set j2 j1.2.1.toNat ({ Kind := x11.Kind, Mode := x11.Mode, Uid := x11.Uid, Gid := x11.Gid, Time := x11.Time, Size := x11.Size, Data := x11.Data, Target := x11.Target, Dev := x11.Dev, Attrs := x11.Attrs, Kids := x11.Kids, Parent := ((mget j1.1 r6.1).getD 0), Links := x11.Links } : TApiNode)) ((mget j1.1 r6.1).getD 0)) fun x14 =>
(Option.bind (idx (List.set j2 j1.2.1.toNat ({ Kind := x11.Kind, Mode := x11.Mode, Uid := x11.Uid, Gid := x11.Gid, Time := x11.Time, Size := x11.Size, Data := x11.Data, Target := x11.Target, Dev := x11.Dev, Attrs := x11.Attrs, Kids := x11.Kids, Parent := ((mget j1.1 r6.1).getD 0), Links := x11.Links } : TApiNode)) ((mget j1.1 r6.1).getD 0)) fun x15 =>
some (.inl (j1.1, (IntKind.i64.wrap (x + 1)), (List.set (List.set j2 j1.2.1.toNat ({ Kind := x11.Kind, Mode := x11.Mode, Uid := x11.Uid, Gid := x11.Gid, Time := x11.Time, Size := x11.Size, Data := x11.Data, Target := x11.Target, Dev := x11.Dev, Attrs := x11.Attrs, Kids := x11.Kids, Parent := ((mget j1.1 r6.1).getD 0), Links := x11.Links } : TApiNode)) (((mget j1.1 r6.1).getD 0).toNat) ({ Kind := x15.Kind, Mode := x15.Mode, Uid := x15.Uid, Gid := x15.Gid, Time := x15.Time, Size := x15.Size, Data := x15.Data, Target := x15.Target, Dev := x15.Dev, Attrs := x15.Attrs, Kids := x15.Kids, Parent := x15.Parent, Links := (IntKind.i64.wrap (x13.Links + 1)) } : TApiNode))))))))))
(Option.bind (idx j2 j1.2.1) fun x16 =>
(Option.bind (idx j2 j1.2.1) fun x17 =>
(Option.bind (idx j2 j1.2.1) fun x18 =>
(Option.bind (idx j2 j1.2.1) fun x19 =>
some (.inl (j1.1, (IntKind.i64.wrap (x + 1)), (List.set j2 j1.2.1.toNat ({ Kind := x19.Kind, Mode := x19.Mode, Uid := x19.Uid, Gid := x19.Gid, Time := x19.Time, Size := x19.Size, Data := x19.Data, Target := x19.Target, Dev := x19.Dev, Attrs := x19.Attrs, Kids := x19.Kids, Parent := x19.Parent, Links := (IntKind.i64.wrap (x17.Links + 1)) } : TApiNode))))))))))))))))
(some (.inr (.inl b))))
theorem tree_Canon_l1_le (l : List TApiEntry) (r1 : ((List TApiEntry) × (List (List UInt8 × Int)) × (List (List UInt8 × Int)) × (List (List UInt8 × Int)))) (r4 : (List TTreeNamed)) (inos : List (List UInt8 × Int)) (x : Int) (b : List TApiNode) : Tw (tree_Canon_l1_q l r1 r4 inos x b) (tree_Canon_l1 l r1 r4 inos x b) := by
  unfold tree_Canon_l1 tree_Canon_l1_q
  try simp only [dup_eq, fork_same]
  repeat (with_reducible (first | exact Tw.rfl _ | apply tree_above_le | apply tree_node_le | exact hrec | apply hrec | refine Tw.cond _ ?_ ?_ | refine Tw.pn ?_ (fun _ => ?_) (fun _ => ?_) | refine Tw.bnd ?_ fun _ => ?_ | refine Tw.bind ?_ fun _ => ?_ | refine Tw.pull fun _ => ?_ | refine Tw.loop _ _ fun _ => ?_ | refine Tw.alt _ (fun _ => ?_) (fun _ => ?_) | refine Tw.dup _ ?_ | refine Tw.fork ?_ ?_ | refine Tw.map _ ?_))
noncomputable def tree_Canon_q (l : List TApiEntry) : Option (((List TApiNode)) × Int) :=
(Option.bind (tree_Check_q l) fun r =>
(cond (r.2 != 0)
(some ([], r.2))
(Option.bind (tree_index_q l) fun r1 =>
(Option.bind (tree_root_q l) fun r2 =>
(Option.bind (tree_node_q r2.1 r2.2.1 r2.2.2.1 r2.2.2.2.1 r2.2.2.2.2.1 r2.2.2.2.2.2.1 r2.2.2.2.2.2.2.1 r2.2.2.2.2.2.2.2.1 r2.2.2.2.2.2.2.2.2.1 r2.2.2.2.2.2.2.2.2.2.1 r2.2.2.2.2.2.2.2.2.2.2) fun r3 =>
(Option.bind (tree_names_q l) fun r4 =>
(bnd (loopF 60 (fun s => tree_Canon_l1_q l r1 r4 s.1 s.2.1 s.2.2) (((mput ([] : List (List UInt8 × Int)) ([] : List UInt8) 0), 0, [{ ({ Kind := r3.1, Mode := r3.2.1, Uid := r3.2.2.1, Gid := r3.2.2.2.1, Time := r3.2.2.2.2.1, Size := r3.2.2.2.2.2.1, Data := r3.2.2.2.2.2.2.1, Target := r3.2.2.2.2.2.2.2.1, Dev := r3.2.2.2.2.2.2.2.2.1, Attrs := r3.2.2.2.2.2.2.2.2.2.1, Kids := [], Parent := r3.2.2.2.2.2.2.2.2.2.2.2.1, Links := r3.2.2.2.2.2.2.2.2.2.2.2.2 } : TApiNode) with Kids := r3.2.2.2.2.2.2.2.2.2.2.1 }]) : (List (List UInt8 × Int)) × Int × ((List TApiNode)))) fun j3 =>
some (j3, 0))))))))
theorem tree_Canon_le (l : List TApiEntry) : Tw (tree_Canon_q l) (tree_Canon l) := by
  unfold tree_Canon tree_Canon_q
  repeat (with_reducible (first | exact Tw.rfl _ | apply tree_index_le | apply tree_Check_le | apply tree_root_le | apply tree_node_le | apply tree_names_le | apply tree_Canon_l1_le | exact hrec | apply hrec | refine Tw.cond _ ?_ ?_ | refine Tw.pn ?_ (fun _ => ?_) (fun _ => ?_) | refine Tw.bnd ?_ fun _ => ?_ | refine Tw.bind ?_ fun _ => ?_ | refine Tw.pull fun _ => ?_ | refine Tw.loop _ _ fun _ => ?_ | refine Tw.alt _ (fun _ => ?_) (fun _ => ?_) | refine Tw.dup _ ?_ | refine Tw.fork ?_ ?_ | refine Tw.map _ ?_))
noncomputable def slices_Equal_Kid_q (s1 : List TApiKid) (s2 : List TApiKid) : Option (Bool) :=
(cond ((s1.length : Int) != (s2.length : Int))
(some false)
(bnd (loopF 60 (fun s => slices_Equal_Kid_l1 s1 s2 s) (0 : Int)) fun _ =>
some true))
theorem slices_Equal_Kid_le (s1 : List TApiKid) (s2 : List TApiKid) : Tw (slices_Equal_Kid_q s1 s2) (slices_Equal_Kid s1 s2) := by
  unfold slices_Equal_Kid slices_Equal_Kid_q
  repeat (with_reducible (first | exact Tw.rfl _ | exact hrec | apply hrec | refine Tw.cond _ ?_ ?_ | refine Tw.pn ?_ (fun _ => ?_) (fun _ => ?_) | refine Tw.bnd ?_ fun _ => ?_ | refine Tw.bind ?_ fun _ => ?_ | refine Tw.pull fun _ => ?_ | refine Tw.loop _ _ fun _ => ?_ | refine Tw.alt _ (fun _ => ?_) (fun _ => ?_) | refine Tw.dup _ ?_ | refine Tw.fork ?_ ?_ | refine Tw.map _ ?_))
noncomputable def slices_EqualFunc_Attr_q (s1 : List TApiAttr) (s2 : List TApiAttr) : Option (Bool) :=
(cond ((s1.length : Int) != (s2.length : Int))
(some false)
(bnd (loopF 60 (fun s => slices_EqualFunc_Attr_l1 s1 s2 s) (0 : Int)) fun _ =>
some true))
theorem slices_EqualFunc_Attr_le (s1 : List TApiAttr) (s2 : List TApiAttr) : Tw (slices_EqualFunc_Attr_q s1 s2) (slices_EqualFunc_Attr s1 s2) := by
  unfold slices_EqualFunc_Attr slices_EqualFunc_Attr_q
  repeat (with_reducible (first | exact Tw.rfl _ | exact hrec | apply hrec | refine Tw.cond _ ?_ ?_ | refine Tw.pn ?_ (fun _ => ?_) (fun _ => ?_) | refine Tw.bnd ?_ fun _ => ?_ | refine Tw.bind ?_ fun _ => ?_ | refine Tw.pull fun _ => ?_ | refine Tw.loop _ _ fun _ => ?_ | refine Tw.alt _ (fun _ => ?_) (fun _ => ?_) | refine Tw.dup _ ?_ | refine Tw.fork ?_ ?_ | refine Tw.map _ ?_))
noncomputable def tree_alike_q (a : Int) (a1 : Int) (a2 : Int) (a3 : Int) (a4 : Int) (a5 : Int) (a6 : List UInt8) (a7 : List UInt8) (a8 : Int) (a9 : List TApiAttr) (a10 : List TApiKid) (a11 : Int) (a12 : Int) (b : Int) (b1 : Int) (b2 : Int) (b3 : Int) (b4 : Int) (b5 : Int) (b6 : List UInt8) (b7 : List UInt8) (b8 : Int) (b9 : List TApiAttr) (b10 : List TApiKid) (b11 : Int) (b12 : Int) : Option (Bool) :=
(bnd ((cond (a != b)
(some (.inl true))
(cond (a1 != b1)
(some (.inl true))
(cond (a2 != b2)
(some (.inl true))
(cond (a3 != b3)
(some (.inl true))
(cond (a4 != b4)
(some (.inl true))
(cond (a5 != b5)
(some (.inl true))
(cond (a7 != b7)
(some (.inl true))
(cond (a8 != b8)
(some (.inl true))
(cond (a11 != b11)
(some (.inl true))
(some (.inl (a12 != b12)))))))))))) : Option (Sum Bool Bool)) fun x =>
(cond x
(some false)
(Option.bind (bytes_Equal a6 b6) fun r =>
(cond r
(Option.bind (slices_Equal_Kid_q a10 b10) fun r1 =>
(cond r1
(Option.bind (slices_EqualFunc_Attr_q a9 b9) fun r2 =>
some r2)
(some false)))
(some false)))))
theorem tree_alike_le (a : Int) (a1 : Int) (a2 : Int) (a3 : Int) (a4 : Int) (a5 : Int) (a6 : List UInt8) (a7 : List UInt8) (a8 : Int) (a9 : List TApiAttr) (a10 : List TApiKid) (a11 : Int) (a12 : Int) (b : Int) (b1 : Int) (b2 : Int) (b3 : Int) (b4 : Int) (b5 : Int) (b6 : List UInt8) (b7 : List UInt8) (b8 : Int) (b9 : List TApiAttr) (b10 : List TApiKid) (b11 : Int) (b12 : Int) : Tw (tree_alike_q a a1 a2 a3 a4 a5 a6 a7 a8 a9 a10 a11 a12 b b1 b2 b3 b4 b5 b6 b7 b8 b9 b10 b11 b12) (tree_alike a a1 a2 a3 a4 a5 a6 a7 a8 a9 a10 a11 a12 b b1 b2 b3 b4 b5 b6 b7 b8 b9 b10 b11 b12) := by
  unfold tree_alike tree_alike_q
  repeat (with_reducible (first | exact Tw.rfl _ | apply slices_Equal_Kid_le | apply slices_EqualFunc_Attr_le | exact hrec | apply hrec | refine Tw.cond _ ?_ ?_ | refine Tw.pn ?_ (fun _ => ?_) (fun _ => ?_) | refine Tw.bnd ?_ fun _ => ?_ | refine Tw.bind ?_ fun _ => ?_ | refine Tw.pull fun _ => ?_ | refine Tw.loop _ _ fun _ => ?_ | refine Tw.alt _ (fun _ => ?_) (fun _ => ?_) | refine Tw.dup _ ?_ | refine Tw.fork ?_ ?_ | refine Tw.map _ ?_))
noncomputable def slices_EqualFunc_Node_l1_q (s1 : List TApiNode) (s2 : List TApiNode) (x : Int) : Option (Sum Int (Sum Unit Bool)) :=
(cond (decide (x < (s1.length : Int)))
(Option.bind (idx s1 x) fun x1 =>
(Option.bind (idx s2 x) fun x2 =>
(Option.bind (tree_alike_q x1.Kind x1.Mode x1.Uid x1.Gid x1.Time x1.Size x1.Data x1.Target x1.Dev x1.Attrs x1.Kids x1.Parent x1.Links x2.Kind x2.Mode x2.Uid x2.Gid x2.Time x2.Size x2.Data x2.Target x2.Dev x2.Attrs x2.Kids x2.Parent x2.Links) fun r =>
(cond (!r)
(some (.inr (.inr false)))
(some (.inl (IntKind.i64.wrap (x + 1))))))))
(some (.inr (.inl ()))))
theorem slices_EqualFunc_Node_l1_le (s1 : List TApiNode) (s2 : List TApiNode) (x : Int) : Tw (slices_EqualFunc_Node_l1_q s1 s2 x) (slices_EqualFunc_Node_l1 s1 s2 x) := by
  unfold slices_EqualFunc_Node_l1 slices_EqualFunc_Node_l1_q
  repeat (with_reducible (first | exact Tw.rfl _ | apply tree_alike_le | exact hrec | apply hrec | refine Tw.cond _ ?_ ?_ | refine Tw.pn ?_ (fun _ => ?_) (fun _ => ?_) | refine Tw.bnd ?_ fun _ => ?_ | refine Tw.bind ?_ fun _ => ?_ | refine Tw.pull fun _ => ?_ | refine Tw.loop _ _ fun _ => ?_ | refine Tw.alt _ (fun _ => ?_) (fun _ => ?_) | refine Tw.dup _ ?_ | refine Tw.fork ?_ ?_ | refine Tw.map _ ?_))
noncomputable def slices_EqualFunc_Node_q (s1 : List TApiNode) (s2 : List TApiNode) : Option (Bool) :=
(cond ((s1.length : Int) != (s2.length : Int))
(some false)
(bnd (loopF 60 (fun s => slices_EqualFunc_Node_l1_q s1 s2 s) (0 : Int)) fun _ =>
some true))
theorem slices_EqualFunc_Node_le (s1 : List TApiNode) (s2 : List TApiNode) : Tw (slices_EqualFunc_Node_q s1 s2) (slices_EqualFunc_Node s1 s2) := by
  unfold slices_EqualFunc_Node slices_EqualFunc_Node_q
  repeat (with_reducible (first | exact Tw.rfl _ | apply slices_EqualFunc_Node_l1_le | exact hrec | apply hrec | refine Tw.cond _ ?_ ?_ | refine Tw.pn ?_ (fun _ => ?_) (fun _ => ?_) | refine Tw.bnd ?_ fun _ => ?_ | refine Tw.bind ?_ fun _ => ?_ | refine Tw.pull fun _ => ?_ | refine Tw.loop _ _ fun _ => ?_ | refine Tw.alt _ (fun _ => ?_) (fun _ => ?_) | refine Tw.dup _ ?_ | refine Tw.fork ?_ ?_ | refine Tw.map _ ?_))
noncomputable def tree_Same_q (a : List TApiNode) (b : List TApiNode) : Option (Bool) :=
(Option.bind (slices_EqualFunc_Node_q a b) fun r =>
some r)
theorem tree_Same_le (a : List TApiNode) (b : List TApiNode) : Tw (tree_Same_q a b) (tree_Same a b) := by
  unfold tree_Same tree_Same_q
  repeat (with_reducible (first | exact Tw.rfl _ | apply slices_EqualFunc_Node_le | exact hrec | apply hrec | refine Tw.cond _ ?_ ?_ | refine Tw.pn ?_ (fun _ => ?_) (fun _ => ?_) | refine Tw.bnd ?_ fun _ => ?_ | refine Tw.bind ?_ fun _ => ?_ | refine Tw.pull fun _ => ?_ | refine Tw.loop _ _ fun _ => ?_ | refine Tw.alt _ (fun _ => ?_) (fun _ => ?_) | refine Tw.dup _ ?_ | refine Tw.fork ?_ ?_ | refine Tw.map _ ?_))
noncomputable def tree_List_q (t : List TApiNode) : Option ((List TApiEntry) × Int) :=
(pnE (tree_lister_add_q 70 t ([] : List (Int × (List UInt8))) ([]) 0 ([] : List UInt8) 0) (fun r =>
(Option.bind (tree_Canon_q r.2.2) fun r1 =>
(cond (r1.2 != 0)
(some ([], 1))
(Option.bind (tree_Same_q r1.1 t) fun r2 =>
(cond (!r2)
(some ([], 1))
(some (r.2.2, 0)))))))
(fun thrown => (some ([], 1))))
theorem tree_List_le (t : List TApiNode) : Tw (tree_List_q t) (tree_List t) := by
  unfold tree_List tree_List_q
  repeat (with_reducible (first | exact Tw.rfl _ | apply tree_lister_add_le | apply tree_Canon_le | apply tree_Same_le | exact hrec | apply hrec | refine Tw.cond _ ?_ ?_ | refine Tw.pn ?_ (fun _ => ?_) (fun _ => ?_) | refine Tw.bnd ?_ fun _ => ?_ | refine Tw.bind ?_ fun _ => ?_ | refine Tw.pull fun _ => ?_ | refine Tw.loop _ _ fun _ => ?_ | refine Tw.alt _ (fun _ => ?_) (fun _ => ?_) | refine Tw.dup _ ?_ | refine Tw.fork ?_ ?_ | refine Tw.map _ ?_))
noncomputable def model_New_l1_q (r1 : ((List TApiNode)) × Int) (x : Int) (b : List TApiNode) (b1 : List (List (List UInt8 × Int))) : Option (Sum (Int × ((List TApiNode) × (List (List (List UInt8 × Int))))) (Sum (((List TApiNode) × (List (List (List UInt8 × Int))))) (((Unit) ⊕ ((List TApiNode) × (List (List (List UInt8 × Int))))) × Int))) :=
(cond (decide (x < (r1.1.length : Int)))
(Option.bind (idx r1.1 x) fun x1 =>
(bnd (loopF 60 (fun s => model_New_l2 x1 s.1 s.2) ((([] : List (List UInt8 × Int)), 0) : (List (List UInt8 × Int)) × Int)) fun by_1 =>
(Option.bind (app b1 ([by_1])) fun z =>
some (.inl ((IntKind.i64.wrap (x + 1)), (b, z))))))
(some (.inr (.inl (b, b1)))))
theorem model_New_l1_le (r1 : ((List TApiNode)) × Int) (x : Int) (b : List TApiNode) (b1 : List (List (List UInt8 × Int))) : Tw (model_New_l1_q r1 x b b1) (model_New_l1 r1 x b b1) := by
  unfold model_New_l1 model_New_l1_q
  repeat (with_reducible (first | exact Tw.rfl _ | exact hrec | apply hrec | refine Tw.cond _ ?_ ?_ | refine Tw.pn ?_ (fun _ => ?_) (fun _ => ?_) | refine Tw.bnd ?_ fun _ => ?_ | refine Tw.bind ?_ fun _ => ?_ | refine Tw.pull fun _ => ?_ | refine Tw.loop _ _ fun _ => ?_ | refine Tw.alt _ (fun _ => ?_) (fun _ => ?_) | refine Tw.dup _ ?_ | refine Tw.fork ?_ ?_ | refine Tw.map _ ?_))
noncomputable def model_New_q (t : List TApiNode) : Option (((Unit) ⊕ ((List TApiNode) × (List (List (List UInt8 × Int))))) × Int) :=
(Option.bind (tree_List_q t) fun r =>
(cond (r.2 != 0)
(some ((.inl ()), 1))
(Option.bind (tree_Canon_q r.1) fun r1 =>
(bnd (loopF 60 (fun s => model_New_l1_q r1 s.1 s.2.1 s.2.2) ((0, (r1.1, [])) : Int × ((List TApiNode) × (List (List (List UInt8 × Int)))))) fun j =>
some ((.inr (j.1, j.2)), 0)))))
theorem model_New_le (t : List TApiNode) : Tw (model_New_q t) (model_New t) := by
  unfold model_New model_New_q
  repeat (with_reducible (first | exact Tw.rfl _ | apply tree_Canon_le | apply tree_List_le | apply model_New_l1_le | exact hrec | apply hrec | refine Tw.cond _ ?_ ?_ | refine Tw.pn ?_ (fun _ => ?_) (fun _ => ?_) | refine Tw.bnd ?_ fun _ => ?_ | refine Tw.bind ?_ fun _ => ?_ | refine Tw.pull fun _ => ?_ | refine Tw.loop _ _ fun _ => ?_ | refine Tw.alt _ (fun _ => ?_) (fun _ => ?_) | refine Tw.dup _ ?_ | refine Tw.fork ?_ ?_ | refine Tw.map _ ?_))
noncomputable def model_split_q (path : List UInt8) : Option (Sum Int ((List (List UInt8)))) :=
(Option.bind (name_Split_q path) fun r =>
(cond (r.2 != 0)
(some (.inl r.2))
(some (.inr r.1))))
theorem model_split_le (path : List UInt8) : Tw (model_split_q path) (model_split path) := by
  unfold model_split model_split_q
  repeat (with_reducible (first | exact Tw.rfl _ | apply name_Split_le | exact hrec | apply hrec | refine Tw.cond _ ?_ ?_ | refine Tw.pn ?_ (fun _ => ?_) (fun _ => ?_) | refine Tw.bnd ?_ fun _ => ?_ | refine Tw.bind ?_ fun _ => ?_ | refine Tw.pull fun _ => ?_ | refine Tw.loop _ _ fun _ => ?_ | refine Tw.alt _ (fun _ => ?_) (fun _ => ?_) | refine Tw.dup _ ?_ | refine Tw.fork ?_ ?_ | refine Tw.map _ ?_))
noncomputable def slices_Concat_string_q (slices : List (List (List UInt8))) : Option ((List (List UInt8))) :=
(bnd (loopF 60 (fun s => slices_Concat_string_l1 slices s.1 s.2) ((0, 0) : Int × Int)) fun size1 =>
(Option.bind (slices_Grow_string () size1) fun r =>
(bnd (loopF 60 (fun s => slices_Concat_string_l2 slices s.1 s.2) ((r, 0) : (List (List UInt8)) × Int)) fun newslice1 =>
some newslice1)))
theorem slices_Concat_string_le (slices : List (List (List UInt8))) : Tw (slices_Concat_string_q slices) (slices_Concat_string slices) := by
  unfold slices_Concat_string slices_Concat_string_q
  repeat (with_reducible (first | exact Tw.rfl _ | exact hrec | apply hrec | refine Tw.cond _ ?_ ?_ | refine Tw.pn ?_ (fun _ => ?_) (fun _ => ?_) | refine Tw.bnd ?_ fun _ => ?_ | refine Tw.bind ?_ fun _ => ?_ | refine Tw.pull fun _ => ?_ | refine Tw.loop _ _ fun _ => ?_ | refine Tw.alt _ (fun _ => ?_) (fun _ => ?_) | refine Tw.dup _ ?_ | refine Tw.fork ?_ ?_ | refine Tw.map _ ?_))
noncomputable def model_Model_Walk_2_l1_q (m : TModelModel) (follow : Bool) (left : List (List UInt8)) (at_1 : Int) (links : Int) : Option (Sum ((List (List UInt8)) × Int × Int) (Sum Int (Int × Int))) :=
(cond (decide ((left.length : Int) > 0))
(Option.bind (idx left 0) fun x =>
(pnE (model_Model_look m at_1 x) (fun r4 =>
(Option.bind (slc left 1 (left.length : Int)) fun y_ =>
(pnE (model_Model_node_2 m r4) (fun r5 =>
(bnd ((cond (r5.Kind != 3)
(some (.inl true))
(cond ((y_.length : Int) == 0)
(some (.inl (!follow)))
(some (.inl false)))) : Option (Sum Bool (Sum ((List (List UInt8)) × Int × Int) (Sum Int (Int × Int))))) fun x1 =>
(cond x1
(some (.inl (y_, r4, links)))
(cond (decide ((IntKind.i64.wrap (links + 1)) > 40))
(some (.inr (.inr (0, 120))))
(pnE (model_split_q r5.Target) (fun r6 =>
(Option.bind (slices_Concat_string_q ([r6, y_] : List (List (List UInt8)))) fun r7 =>
(cond (decide ((r7.length : Int) > 256))
(some (.inr (.inr (0, 3))))
(Option.bind (name_Absolute r5.Target) fun r8 =>
(cond r8
(some (.inl (r7, 0, (IntKind.i64.wrap (links + 1)))))
(some (.inl (r7, at_1, (IntKind.i64.wrap (links + 1))))))))))
(fun thrown5 => (some (.inr (.inr (0, thrown5))))))))))
(fun thrown4 => (some (.inr (.inr (0, thrown4))))))))
(fun thrown3 => (some (.inr (.inr (0, thrown3)))))))
(some (.inr (.inl at_1))))
theorem model_Model_Walk_2_l1_le (m : TModelModel) (follow : Bool) (left : List (List UInt8)) (at_1 : Int) (links : Int) : Tw (model_Model_Walk_2_l1_q m follow left at_1 links) (model_Model_Walk_2_l1 m follow left at_1 links) := by
  unfold model_Model_Walk_2_l1 model_Model_Walk_2_l1_q
  repeat (with_reducible (first | exact Tw.rfl _ | apply model_split_le | apply slices_Concat_string_le | exact hrec | apply hrec | refine Tw.cond _ ?_ ?_ | refine Tw.pn ?_ (fun _ => ?_) (fun _ => ?_) | refine Tw.bnd ?_ fun _ => ?_ | refine Tw.bind ?_ fun _ => ?_ | refine Tw.pull fun _ => ?_ | refine Tw.loop _ _ fun _ => ?_ | refine Tw.alt _ (fun _ => ?_) (fun _ => ?_) | refine Tw.dup _ ?_ | refine Tw.fork ?_ ?_ | refine Tw.map _ ?_))
noncomputable def model_Model_Walk_2_q (m : TModelModel) (from_ : Int) (path : List UInt8) (follow : Bool) : Option (Int × Int) :=
(pnE (model_Model_node_2 m from_) (fun r =>
(pnE (model_split_q path) (fun r1 =>
(Option.bind (name_Absolute path) fun r2 =>
(bnd ((cond r2
(some (.inl 0))
(some (.inl from_))) : Option (Sum Int (Int × Int))) fun at_ =>
(pnE (model_Model_of_2 m at_ 2) (fun r3 =>
(bnd (loopF 60 (fun s => model_Model_Walk_2_l1_q m follow s.1 s.2.1 s.2.2) ((r1, at_, 0) : (List (List UInt8)) × Int × Int)) fun at_2 =>
some (at_2, 0)))
(fun thrown2 => (some (0, thrown2)))))))
(fun thrown1 => (some (0, thrown1)))))
(fun thrown => (some (0, thrown))))
theorem model_Model_Walk_2_le (m : TModelModel) (from_ : Int) (path : List UInt8) (follow : Bool) : Tw (model_Model_Walk_2_q m from_ path follow) (model_Model_Walk_2 m from_ path follow) := by
  unfold model_Model_Walk_2 model_Model_Walk_2_q
  repeat (with_reducible (first | exact Tw.rfl _ | apply model_split_le | apply model_Model_Walk_2_l1_le | exact hrec | apply hrec | refine Tw.cond _ ?_ ?_ | refine Tw.pn ?_ (fun _ => ?_) (fun _ => ?_) | refine Tw.bnd ?_ fun _ => ?_ | refine Tw.bind ?_ fun _ => ?_ | refine Tw.pull fun _ => ?_ | refine Tw.loop _ _ fun _ => ?_ | refine Tw.alt _ (fun _ => ?_) (fun _ => ?_) | refine Tw.dup _ ?_ | refine Tw.fork ?_ ?_ | refine Tw.map _ ?_))
noncomputable def law12_live_q : Option (Bool) :=
(Option.bind (ref11_Canon_q ([({ Path := ([97] : List UInt8), Kind := 2, Mode := 0, Uid := 0, Gid := 0, Time := 0, Size := 0, Data := [], Target := ([] : List UInt8), Dev := 0, Attrs := [] } : TApiEntry), ({ Path := ([97, 47, 102] : List UInt8), Kind := 1, Mode := 0, Uid := 0, Gid := 0, Time := 0, Size := 4, Data := ([(120 : UInt8), (121 : UInt8)] : List UInt8), Target := ([] : List UInt8), Dev := 0, Attrs := [] } : TApiEntry), ({ Path := ([108] : List UInt8), Kind := 3, Mode := 0, Uid := 0, Gid := 0, Time := 0, Size := 0, Data := [], Target := ([97] : List UInt8), Dev := 0, Attrs := [] } : TApiEntry)] : List TApiEntry)) fun r =>
(Option.bind (model_New_q r) fun r1 =>
(altE r1.1 (fun y_ => (bnd ((Option.bind (law12_num r1.2) fun r2 =>
(cond (r2 != 0)
(some (.inl true))
(some (.inl true)))) : Option (Sum Bool Bool)) fun x =>
(cond x
(some false)
(Option.bind (model_Model_Walk () 0 ([108, 47, 102] : List UInt8) true) fun r3 =>
(Option.bind (model_Model_Read () r3.1 1 9) fun r4 =>
(Option.bind (law12_num r3.2) fun r5 =>
(Option.bind (law12_num r4.2) fun r6 =>
(cond ((IntKind.i64.wrap (r5 + r6)) == 0)
(cond (r3.1 == 2)
(some (r4.1 == ([121, 0, 0] : List UInt8)))
(some false))
(some false)))))))))
(fun y_1 => (bnd ((Option.bind (law12_num r1.2) fun r7 =>
(cond (r7 != 0)
(some (.inl true))
(some (.inl false)))) : Option (Sum Bool Bool)) fun x1 =>
(cond x1
(some false)
(Option.bind (model_Model_Walk_2_q ({ f_nodes := y_1.1, f_kids := y_1.2 } : TModelModel) 0 ([108, 47, 102] : List UInt8) true) fun r8 =>
(Option.bind (model_Model_Read_2 ({ f_nodes := y_1.1, f_kids := y_1.2 } : TModelModel) r8.1 1 9) fun r9 =>
(Option.bind (law12_num r8.2) fun r10 =>
(Option.bind (law12_num r9.2) fun r11 =>
(cond ((IntKind.i64.wrap (r10 + r11)) == 0)
(cond (r8.1 == 2)
(some (r9.1 == ([121, 0, 0] : List UInt8)))
(some false))
(some false))))))))))))
theorem law12_live_le : Tw (law12_live_q) (law12_live) := by
  unfold law12_live law12_live_q
  repeat (with_reducible (first | exact Tw.rfl _ | apply ref11_Canon_le | apply model_New_le | apply model_Model_Walk_2_le | exact hrec | apply hrec | refine Tw.cond _ ?_ ?_ | refine Tw.pn ?_ (fun _ => ?_) (fun _ => ?_) | refine Tw.bnd ?_ fun _ => ?_ | refine Tw.bind ?_ fun _ => ?_ | refine Tw.pull fun _ => ?_ | refine Tw.loop _ _ fun _ => ?_ | refine Tw.alt _ (fun _ => ?_) (fun _ => ?_) | refine Tw.dup _ ?_ | refine Tw.fork ?_ ?_ | refine Tw.map _ ?_))
end Go.Proofs.YtkmhidggbnbaaaaGreatDoor.F
