import Derived.Test.YtebbaokcgnjfiaaDoorRows
import Derived.Test.YtebbaokcgnjfiaaDoorM3
import Derived.Test.YtebbaokcgnjfiaaDoorM6
import Derived.Test.YtebbaokcgnjfiaaDoorLB6
import Derived.Test.YtebbaokcgnjfiaaDoorXManifestBack
import Derived.LaidMore
import Derived.MakeChecks
import Derived.Handed
import Derived.Stop.Joined
import Derived.SevenTiedAt
import Derived.Test.YtebbaokcgnjfiaaDoorCards
import Derived.Test.YtebbaokcgnjfiaaDoorTie
set_option linter.unusedVariables false
set_option linter.unusedSimpArgs false
namespace Go.Proofs.YtebbaokcgnjfiaaDoor.K
open Go Go.RowKit Go.ChangeShapes Go.WideShapes Go.ChangeAt
theorem cut2 {cs:List Value} (h:cs.length=2):∃ c0 c1,cs=[c0,c1]:=by
 match cs,h with
 | [c0,c1],_ => exact ⟨_,_,rfl⟩
theorem cut3 {cs:List Value} (h:cs.length=3):∃ c0 c1 c2,cs=[c0,c1,c2]:=by
 match cs,h with
 | [c0,c1,c2],_ => exact ⟨_,_,_,rfl⟩
theorem cut6 {cs:List Value} (h:cs.length=6):∃ c0 c1 c2 c3 c4 c5,cs=[c0,c1,c2,c3,c4,c5]:=by
 match cs,h with
 | [c0,c1,c2,c3,c4,c5],_ => exact ⟨_,_,_,_,_,_,rfl⟩
theorem cut11 {cs:List Value} (h:cs.length=11):∃ c0 c1 c2 c3 c4 c5 c6 c7 c8 c9 c10,cs=[c0,c1,c2,c3,c4,c5,c6,c7,c8,c9,c10]:=by
 match cs,h with
 | [c0,c1,c2,c3,c4,c5,c6,c7,c8,c9,c10],_ => exact ⟨_,_,_,_,_,_,_,_,_,_,_,rfl⟩
theorem opn_TApiAttr:Opn Tryd.prog 46 rApiAttr:=by
 intro H enc W fuel cs x h
 obtain ⟨xs,n,_,_,hl0,hxl,hf⟩:=DataW.trod_struct Tryd.underlying46 h
 have hl:cs.length=2:=hl0.trans (by kernel_rfl)
 clear h hl0
 obtain ⟨c0,c1,rfl⟩:=cut2 hl
 have g0:DataW.trod enc Tryd.prog W 0 (fun _ => true) true n 9 (([c0,c1].drop 0).take (Tryd.prog.cellsOf 9))=xs[0]?:=hf 0 _ rfl
 rw [show Tryd.prog.cellsOf 9=1 from by kernel_rfl] at g0
 have hi0:0 < xs.length:=by rw [hxl]; decide
 rw [List.getElem?_eq_getElem hi0] at g0
 obtain ⟨a0,e0,k0⟩:=(opn_str Tryd.underlying9) H enc W n [c0] _ g0
 have g1:DataW.trod enc Tryd.prog W 0 (fun _ => true) true n 25 (([c0,c1].drop 1).take (Tryd.prog.cellsOf 25))=xs[1]?:=hf 1 _ rfl
 rw [show Tryd.prog.cellsOf 25=1 from by kernel_rfl] at g1
 have hi1:1 < xs.length:=by rw [hxl]; decide
 rw [List.getElem?_eq_getElem hi1] at g1
 obtain ⟨a1,e1,k1⟩:=(opn_slice Tryd.underlying25 (by kernel_rfl) (opn_u8 Tryd.underlying5)) H enc W n [c1] _ g1
 obtain ⟨e0,S0_0⟩:=e0
 have e0:[c0]=[.string ⟨a0.toArray⟩]:=e0
 cases e0
 obtain ⟨A1_0,C1_0,e1,S1_0⟩:=e1
 have e1:[c1]=[.slice A1_0 a1.length C1_0]:=e1
 cases e1
 exact ⟨⟨a0,a1⟩,⟨A1_0,C1_0,rfl,S0_0,S1_0⟩,k0,k1⟩
theorem opn_TApiEntry:Opn Tryd.prog 44 rApiEntry:=by
 intro H enc W fuel cs x h
 obtain ⟨xs,n,_,_,hl0,hxl,hf⟩:=DataW.trod_struct Tryd.underlying44 h
 have hl:cs.length=11:=hl0.trans (by kernel_rfl)
 clear h hl0
 obtain ⟨c0,c1,c2,c3,c4,c5,c6,c7,c8,c9,c10,rfl⟩:=cut11 hl
 have g0:DataW.trod enc Tryd.prog W 0 (fun _ => true) true n 9 (([c0,c1,c2,c3,c4,c5,c6,c7,c8,c9,c10].drop 0).take (Tryd.prog.cellsOf 9))=xs[0]?:=hf 0 _ rfl
 rw [show Tryd.prog.cellsOf 9=1 from by kernel_rfl] at g0
 have hi0:0 < xs.length:=by rw [hxl]; decide
 rw [List.getElem?_eq_getElem hi0] at g0
 obtain ⟨a0,e0,k0⟩:=(opn_str Tryd.underlying9) H enc W n [c0] _ g0
 have g1:DataW.trod enc Tryd.prog W 0 (fun _ => true) true n 3 (([c0,c1,c2,c3,c4,c5,c6,c7,c8,c9,c10].drop 1).take (Tryd.prog.cellsOf 3))=xs[1]?:=hf 1 _ rfl
 rw [show Tryd.prog.cellsOf 3=1 from by kernel_rfl] at g1
 have hi1:1 < xs.length:=by rw [hxl]; decide
 rw [List.getElem?_eq_getElem hi1] at g1
 obtain ⟨a1,e1,k1⟩:=(opn_i64 Tryd.underlying3) H enc W n [c1] _ g1
 have g2:DataW.trod enc Tryd.prog W 0 (fun _ => true) true n 3 (([c0,c1,c2,c3,c4,c5,c6,c7,c8,c9,c10].drop 2).take (Tryd.prog.cellsOf 3))=xs[2]?:=hf 2 _ rfl
 rw [show Tryd.prog.cellsOf 3=1 from by kernel_rfl] at g2
 have hi2:2 < xs.length:=by rw [hxl]; decide
 rw [List.getElem?_eq_getElem hi2] at g2
 obtain ⟨a2,e2,k2⟩:=(opn_i64 Tryd.underlying3) H enc W n [c2] _ g2
 have g3:DataW.trod enc Tryd.prog W 0 (fun _ => true) true n 3 (([c0,c1,c2,c3,c4,c5,c6,c7,c8,c9,c10].drop 3).take (Tryd.prog.cellsOf 3))=xs[3]?:=hf 3 _ rfl
 rw [show Tryd.prog.cellsOf 3=1 from by kernel_rfl] at g3
 have hi3:3 < xs.length:=by rw [hxl]; decide
 rw [List.getElem?_eq_getElem hi3] at g3
 obtain ⟨a3,e3,k3⟩:=(opn_i64 Tryd.underlying3) H enc W n [c3] _ g3
 have g4:DataW.trod enc Tryd.prog W 0 (fun _ => true) true n 3 (([c0,c1,c2,c3,c4,c5,c6,c7,c8,c9,c10].drop 4).take (Tryd.prog.cellsOf 3))=xs[4]?:=hf 4 _ rfl
 rw [show Tryd.prog.cellsOf 3=1 from by kernel_rfl] at g4
 have hi4:4 < xs.length:=by rw [hxl]; decide
 rw [List.getElem?_eq_getElem hi4] at g4
 obtain ⟨a4,e4,k4⟩:=(opn_i64 Tryd.underlying3) H enc W n [c4] _ g4
 have g5:DataW.trod enc Tryd.prog W 0 (fun _ => true) true n 3 (([c0,c1,c2,c3,c4,c5,c6,c7,c8,c9,c10].drop 5).take (Tryd.prog.cellsOf 3))=xs[5]?:=hf 5 _ rfl
 rw [show Tryd.prog.cellsOf 3=1 from by kernel_rfl] at g5
 have hi5:5 < xs.length:=by rw [hxl]; decide
 rw [List.getElem?_eq_getElem hi5] at g5
 obtain ⟨a5,e5,k5⟩:=(opn_i64 Tryd.underlying3) H enc W n [c5] _ g5
 have g6:DataW.trod enc Tryd.prog W 0 (fun _ => true) true n 3 (([c0,c1,c2,c3,c4,c5,c6,c7,c8,c9,c10].drop 6).take (Tryd.prog.cellsOf 3))=xs[6]?:=hf 6 _ rfl
 rw [show Tryd.prog.cellsOf 3=1 from by kernel_rfl] at g6
 have hi6:6 < xs.length:=by rw [hxl]; decide
 rw [List.getElem?_eq_getElem hi6] at g6
 obtain ⟨a6,e6,k6⟩:=(opn_i64 Tryd.underlying3) H enc W n [c6] _ g6
 have g7:DataW.trod enc Tryd.prog W 0 (fun _ => true) true n 25 (([c0,c1,c2,c3,c4,c5,c6,c7,c8,c9,c10].drop 7).take (Tryd.prog.cellsOf 25))=xs[7]?:=hf 7 _ rfl
 rw [show Tryd.prog.cellsOf 25=1 from by kernel_rfl] at g7
 have hi7:7 < xs.length:=by rw [hxl]; decide
 rw [List.getElem?_eq_getElem hi7] at g7
 obtain ⟨a7,e7,k7⟩:=(opn_slice Tryd.underlying25 (by kernel_rfl) (opn_u8 Tryd.underlying5)) H enc W n [c7] _ g7
 have g8:DataW.trod enc Tryd.prog W 0 (fun _ => true) true n 9 (([c0,c1,c2,c3,c4,c5,c6,c7,c8,c9,c10].drop 8).take (Tryd.prog.cellsOf 9))=xs[8]?:=hf 8 _ rfl
 rw [show Tryd.prog.cellsOf 9=1 from by kernel_rfl] at g8
 have hi8:8 < xs.length:=by rw [hxl]; decide
 rw [List.getElem?_eq_getElem hi8] at g8
 obtain ⟨a8,e8,k8⟩:=(opn_str Tryd.underlying9) H enc W n [c8] _ g8
 have g9:DataW.trod enc Tryd.prog W 0 (fun _ => true) true n 3 (([c0,c1,c2,c3,c4,c5,c6,c7,c8,c9,c10].drop 9).take (Tryd.prog.cellsOf 3))=xs[9]?:=hf 9 _ rfl
 rw [show Tryd.prog.cellsOf 3=1 from by kernel_rfl] at g9
 have hi9:9 < xs.length:=by rw [hxl]; decide
 rw [List.getElem?_eq_getElem hi9] at g9
 obtain ⟨a9,e9,k9⟩:=(opn_i64 Tryd.underlying3) H enc W n [c9] _ g9
 have g10:DataW.trod enc Tryd.prog W 0 (fun _ => true) true n 42 (([c0,c1,c2,c3,c4,c5,c6,c7,c8,c9,c10].drop 10).take (Tryd.prog.cellsOf 42))=xs[10]?:=hf 10 _ rfl
 rw [show Tryd.prog.cellsOf 42=1 from by kernel_rfl] at g10
 have hi10:10 < xs.length:=by rw [hxl]; decide
 rw [List.getElem?_eq_getElem hi10] at g10
 obtain ⟨a10,e10,k10⟩:=(opn_slice Tryd.underlying42 (by kernel_rfl) opn_TApiAttr) H enc W n [c10] _ g10
 obtain ⟨e0,S0_0⟩:=e0
 have e0:[c0]=[.string ⟨a0.toArray⟩]:=e0
 cases e0
 have e1:[c1]=[.int .i64 a1]:=e1
 cases e1
 have e2:[c2]=[.int .i64 a2]:=e2
 cases e2
 have e3:[c3]=[.int .i64 a3]:=e3
 cases e3
 have e4:[c4]=[.int .i64 a4]:=e4
 cases e4
 have e5:[c5]=[.int .i64 a5]:=e5
 cases e5
 have e6:[c6]=[.int .i64 a6]:=e6
 cases e6
 obtain ⟨A7_0,C7_0,e7,S7_0⟩:=e7
 have e7:[c7]=[.slice A7_0 a7.length C7_0]:=e7
 cases e7
 obtain ⟨e8,S8_0⟩:=e8
 have e8:[c8]=[.string ⟨a8.toArray⟩]:=e8
 cases e8
 have e9:[c9]=[.int .i64 a9]:=e9
 cases e9
 obtain ⟨A10_0,C10_0,e10,S10_0⟩:=e10
 have e10:[c10]=[.slice A10_0 a10.length C10_0]:=e10
 cases e10
 exact ⟨⟨a0,a1,a2,a3,a4,a5,a6,a7,a8,a9,a10⟩,⟨A7_0,C7_0,A10_0,C10_0,rfl,S0_0,S7_0,S8_0,S10_0⟩,k0,k1,k2,k3,k4,k5,k6,k7,k8,k9,k10⟩
theorem opn_TManifestText:Opn Tryd.prog 54 rManifestText:=by
 intro H enc W fuel cs x h
 obtain ⟨xs,n,_,_,hl0,hxl,hf⟩:=DataW.trod_struct Tryd.underlying54 h
 have hl:cs.length=3:=hl0.trans (by kernel_rfl)
 clear h hl0
 obtain ⟨c0,c1,c2,rfl⟩:=cut3 hl
 have g0:DataW.trod enc Tryd.prog W 0 (fun _ => true) true n 25 (([c0,c1,c2].drop 0).take (Tryd.prog.cellsOf 25))=xs[0]?:=hf 0 _ rfl
 rw [show Tryd.prog.cellsOf 25=1 from by kernel_rfl] at g0
 have hi0:0 < xs.length:=by rw [hxl]; decide
 rw [List.getElem?_eq_getElem hi0] at g0
 obtain ⟨a0,e0,k0⟩:=(opn_slice Tryd.underlying25 (by kernel_rfl) (opn_u8 Tryd.underlying5)) H enc W n [c0] _ g0
 have g1:DataW.trod enc Tryd.prog W 0 (fun _ => true) true n 3 (([c0,c1,c2].drop 1).take (Tryd.prog.cellsOf 3))=xs[1]?:=hf 1 _ rfl
 rw [show Tryd.prog.cellsOf 3=1 from by kernel_rfl] at g1
 have hi1:1 < xs.length:=by rw [hxl]; decide
 rw [List.getElem?_eq_getElem hi1] at g1
 obtain ⟨a1,e1,k1⟩:=(opn_i64 Tryd.underlying3) H enc W n [c1] _ g1
 have g2:DataW.trod enc Tryd.prog W 0 (fun _ => true) true n 26 (([c0,c1,c2].drop 2).take (Tryd.prog.cellsOf 26))=xs[2]?:=hf 2 _ rfl
 rw [show Tryd.prog.cellsOf 26=1 from by kernel_rfl] at g2
 have hi2:2 < xs.length:=by rw [hxl]; decide
 rw [List.getElem?_eq_getElem hi2] at g2
 obtain ⟨a2,e2,k2⟩:=(opn_i64 Tryd.underlying26) H enc W n [c2] _ g2
 obtain ⟨A0_0,C0_0,e0,S0_0⟩:=e0
 have e0:[c0]=[.slice A0_0 a0.length C0_0]:=e0
 cases e0
 have e1:[c1]=[.int .i64 a1]:=e1
 cases e1
 have e2:[c2]=[.int .i64 a2]:=e2
 cases e2
 exact ⟨⟨a0,a1,a2⟩,⟨A0_0,C0_0,rfl,S0_0⟩,k0,k1,k2⟩
theorem opn_TManifestReader:Opn Tryd.prog 56 rManifestReader:=by
 intro H enc W fuel cs x h
 obtain ⟨xs,n,_,_,hl0,hxl,hf⟩:=DataW.trod_struct Tryd.underlying56 h
 have hl:cs.length=6:=hl0.trans (by kernel_rfl)
 clear h hl0
 obtain ⟨c0,c1,c2,c3,c4,c5,rfl⟩:=cut6 hl
 have g0:DataW.trod enc Tryd.prog W 0 (fun _ => true) true n 54 (([c0,c1,c2,c3,c4,c5].drop 0).take (Tryd.prog.cellsOf 54))=xs[0]?:=hf 0 _ rfl
 rw [show Tryd.prog.cellsOf 54=3 from by kernel_rfl] at g0
 have hi0:0 < xs.length:=by rw [hxl]; decide
 rw [List.getElem?_eq_getElem hi0] at g0
 obtain ⟨a0,e0,k0⟩:=opn_TManifestText H enc W n [c0,c1,c2] _ g0
 have g1:DataW.trod enc Tryd.prog W 0 (fun _ => true) true n 22 (([c0,c1,c2,c3,c4,c5].drop 3).take (Tryd.prog.cellsOf 22))=xs[1]?:=hf 1 _ rfl
 rw [show Tryd.prog.cellsOf 22=1 from by kernel_rfl] at g1
 have hi1:1 < xs.length:=by rw [hxl]; decide
 rw [List.getElem?_eq_getElem hi1] at g1
 obtain ⟨a1,e1,k1⟩:=(opn_slice Tryd.underlying22 (by kernel_rfl) opn_TApiEntry) H enc W n [c3] _ g1
 have g2:DataW.trod enc Tryd.prog W 0 (fun _ => true) true n 4 (([c0,c1,c2,c3,c4,c5].drop 4).take (Tryd.prog.cellsOf 4))=xs[2]?:=hf 2 _ rfl
 rw [show Tryd.prog.cellsOf 4=1 from by kernel_rfl] at g2
 have hi2:2 < xs.length:=by rw [hxl]; decide
 rw [List.getElem?_eq_getElem hi2] at g2
 obtain ⟨a2,e2,k2⟩:=(opn_bool Tryd.underlying4) H enc W n [c4] _ g2
 have g3:DataW.trod enc Tryd.prog W 0 (fun _ => true) true n 4 (([c0,c1,c2,c3,c4,c5].drop 5).take (Tryd.prog.cellsOf 4))=xs[3]?:=hf 3 _ rfl
 rw [show Tryd.prog.cellsOf 4=1 from by kernel_rfl] at g3
 have hi3:3 < xs.length:=by rw [hxl]; decide
 rw [List.getElem?_eq_getElem hi3] at g3
 obtain ⟨a3,e3,k3⟩:=(opn_bool Tryd.underlying4) H enc W n [c5] _ g3
 obtain ⟨A0_0,C0_0,e0,S0_0⟩:=e0
 have e0:[c0,c1,c2]=[.slice A0_0 a0.f_b.length C0_0,.int .i64 a0.f_at,.int .i64 a0.f_e]:=e0
 cases e0
 obtain ⟨A1_0,C1_0,e1,S1_0⟩:=e1
 have e1:[c3]=[.slice A1_0 a1.length C1_0]:=e1
 cases e1
 have e2:[c4]=[.bool a2]:=e2
 cases e2
 have e3:[c5]=[.bool a3]:=e3
 cases e3
 exact ⟨⟨a0,a1,a2,a3⟩,⟨A0_0,C0_0,A1_0,C1_0,rfl,S0_0,S1_0⟩,k0,k1,k2,k3⟩
end Go.Proofs.YtebbaokcgnjfiaaDoor.K
namespace Go.Proofs.YtebbaokcgnjfiaaDoor.manifestBack
open Go.ChangeShapes Go.WideShapes Go.ChangeAt Go.RowKit Go.Proofs.YtebbaokcgnjfiaaDoor.K
open Go.ChangeMaps (open_string shut_string)
theorem own:ownKnob Tryd.prog.godebug=none:=by kernel_rfl
theorem laidOut:laidOutB Tryd.prog=true:=by kernel_rfl
theorem door_met (os:Os) (args:Array Value):laidMetH Tryd.prog Rows.manifestBackRow.laid ((World.doorLaid Tryd.prog 400 os).forCall (fun _ _ => 0) ⟨#[],args,[]⟩).memory :=
 laidMetH_of_parts3 (fuel:=8) (laidMet_of_run' 8 (by kernel_rfl) (by kernel_rfl)) (by kernel_rfl) (by kernel_rfl)
theorem of_laid {W:World} (h:laidMetH Tryd.prog Rows.manifestBackRow.laid W):TabM (memOf W) 0 (F.tab0.map fU64) ∧ TabM (memOf W) 2 (F.tab2.map fU8):=by
 rw [MakeChecks.laidMetH_plain _ _ _ (by kernel_rfl)] at h
 obtain ⟨ps,h,_,_⟩:=h
 obtain ⟨g1,t1,cs1,f1,p1,q1,hg1,ht1,hv1,hd1,h,_⟩:=h
 obtain ⟨g2,t2,cs2,f2,p2,q2,hg2,ht2,hv2,hd2,h,_⟩:=h
 obtain ⟨g0,t0,cs0,f0,p0,q0,hg0,ht0,hv0,hd0,h,_⟩:=h
 have eg0:g0=0:=Option.some.inj (hg0.symm.trans (by kernel_rfl))
 subst eg0
 have et0:t0=92:=Option.some.inj (ht0.symm.trans (by kernel_rfl))
 subst et0
 have ed0:(Rows.laid_internal_strconv_uint64pow10:DataW Unit)=.agg ((F.tab0.map fun x => (x.toNat:Int)).map fun v => .lit (.int .u64 v)):=by kernel_rfl
 rw [ed0] at hd0
 have eg2:g2=2:=Option.some.inj (hg2.symm.trans (by kernel_rfl))
 subst eg2
 have et2:t2=98:=Option.some.inj (ht2.symm.trans (by kernel_rfl))
 subst et2
 have ed2:(Rows.laid_math_bits_deBruijn64tab:DataW Unit)=.agg ((F.tab2.map fun x => (x.toNat:Int)).map fun v => .lit (.int .u8 v)):=by kernel_rfl
 rw [ed2] at hd2
 exact ⟨tab_of (by kernel_rfl) hv0 (tab_cells Tryd.underlying92 Tryd.underlying83 (by kernel_rfl) (by kernel_rfl) hd0),tab_of (by kernel_rfl) hv2 (tab_cells Tryd.underlying98 Tryd.underlying5 (by kernel_rfl) (by kernel_rfl) hd2)⟩
set_option maxRecDepth 100000 in
theorem lifted (os:Os) (started:os.Started) (H:Type) (enc:TypeId × Value → H) :
  ReturnsInHanded {} Tryd.checked os 5 .any (fun w args => (Rows.manifestBackSpec.pre enc Tryd.prog Tryd.f5 [] false w args ∧ laidMetH Tryd.prog Rows.manifestBackRow.laid w) ∧ sizedMet enc Tryd.prog Tryd.f5 (OpenSpec.ofChange Rows.manifestBackSpec) false w args) (Rows.manifestBackSpec.post enc Tryd.prog Tryd.f5 false true false false):=by
 refine returnsInHanded_of_change_and (C:=Tryd.checked) (X:=fun w _ => laidMetH Tryd.prog Rows.manifestBackRow.laid w) (fun _ _ _ hh h => h.of_heap hh) own started (by kernel_rfl) Tryd.func5
  (ChangeSpec.witness_shaped (enc:=enc) (C:=Tryd.checked) (os:=os) (X:=fun w _ => laidMetH Tryd.prog Rows.manifestBackRow.laid w) false (World.doorLaid Tryd.prog 400 os) #[.slice none 0 0,.slice none 0 0] 8 rfl (World.shaped_of_RefB (by kernel_rfl) (by kernel_rfl)) (by kernel_rfl) (by kernel_rfl) (by kernel_rfl) (door_met os _)) ?_
 intro W base args ds gs before hval0 hW hcnd hsz0 hL _
 obtain ⟨hT0,hT2⟩:=of_laid hL
 have hsz:(DataW.weightsEach Tryd.prog (Tryd.f5.params.toList ++ Rows.manifestBackSpec.plain.varTypes Tryd.prog) (ds ++ gs)).all (· ≤ reachBytes)=true:=hsz0
 have hval:∀ (j:Nat) t v,Tryd.f5.params[j]?=some t → args[j]?=some v → Value.okWide Tryd.prog W .any base t v:=hval0
 have hW':=hW
 obtain ⟨p,q,hA0,hV,rfl,hfz,hnd⟩:=hW
 have hA:DataW.TrodAll enc Tryd.prog W 0 (fun _ => true) true Tryd.f5.params.toList args.toList ds p:=hA0
 rw [Tryd.params5] at hA hval hsz
 obtain ⟨v0,vs0,d0,ds0,p0,q0,hargs,rfl,rfl,h0,r0⟩:=trodAll_cons hA
 obtain ⟨v1,vs1,d1,ds1,p1,q1,rfl,rfl,rfl,h1,r1⟩:=trodAll_cons r0
 obtain ⟨rfl,rfl,rfl⟩:=trodAll_nil r1
 obtain rfl:args=#[v0,v1]:=by cases args; simp_all
 obtain ⟨rfl,rfl⟩:=trodVars_none hV
 obtain ⟨a0,len0,cap0,rfl⟩:=okWide_slice Tryd.underlying22 (hval 0 22 v0 rfl rfl)
 have k0:=h0
 have lt0:∀ x ∈ p0,x.block < W.heap.size:=by obtain ⟨m,hm⟩:=k0; exact DataW.trod_lt m _ _ _ hm
 obtain ⟨l0,rfl,S0,w0⟩:=open_sl (opn_slice Tryd.underlying22 (by kernel_rfl) opn_TApiEntry) h0
 obtain ⟨a1,len1,cap1,rfl⟩:=okWide_slice Tryd.underlying25 (hval 1 25 v1 rfl rfl)
 have k1:=h1
 have lt1:∀ x ∈ p1,x.block < W.heap.size:=by obtain ⟨m,hm⟩:=k1; exact DataW.trod_lt m _ _ _ hm
 obtain ⟨l1,rfl,S1,w1⟩:=open_sl (opn_slice Tryd.underlying25 (by kernel_rfl) (opn_u8 Tryd.underlying5)) h1
 clear hA0 hval0 hsz0 hsz
 refine (F.law27_ManifestBack_c (Has.of W) hT0 hT2 l0 a0 cap0 S0 l1 a1 cap1 S1 (F.ManifestBack_pure l0 w0 l1 w1)).mono fun e W' ⟨v,he,hv,hx⟩ => ?_
 subst he
 subst hv
 have bel:=hx.below
 exact ⟨_,rfl,_,_,_,[],_,[],hW',trodAll_mk1 (shut_bool Tryd.underlying4 _),(trodAll_cons_mk (Below.trod laidOut (by kernel_rfl) (of_decide_eq_true (by kernel_rfl)) k0 bel lt0) (trodAll_cons_mk (Below.trod laidOut (by kernel_rfl) (of_decide_eq_true (by kernel_rfl)) k1 bel lt1) trodAll_mk0)),rfl,bel.frame _,fun h => by cases h⟩
theorem over:Rows.manifestBackRow.holds Tryd.pinned (OpenSpec.ofChange Rows.manifestBackSpec) :=
 OpenClaim.holds_of_wide 5 Tryd.f5 rfl rfl rfl rfl rfl rfl rfl ⟨rfl,rfl,rfl,rfl,rfl⟩ rfl rfl rfl rfl rfl (by kernel_rfl) Tryd.func5 (by kernel_rfl)
  (of_decide_eq_true (by kernel_rfl)) (by unfold Func.isWrapper; first | (rw [if_pos (by decide +kernel)]; kernel_rfl) | (rw [if_neg (by decide +kernel)]; exact ⟨rfl,rfl⟩))
  (fun os started H enc _ => lifted os started H enc)
theorem proved:Rows.ManifestBackSaid:=over
#print axioms proved
end Go.Proofs.YtebbaokcgnjfiaaDoor.manifestBack
namespace Go.Proofs.YtebbaokcgnjfiaaDoor
theorem manifestBack_holds:Rows.ManifestBackSaid:=manifestBack.proved
theorem manifestBack_card:Rows.ManifestBackCardSaid :=
 Claim7.holds_tied_plain_at .later [] [.data,.data,.data] true (true,"179d5f4d14ab753c18a7d9ad24ece7730f74050222f7841c94f659ffc5383960") false
  manifestBack_holds (fun _ h => by cases h) (by kernel_rfl) (fun _ h => by cases h) manifestBack_row_tie rfl ⟨rfl,rfl⟩ (by kernel_rfl) rfl
  (fun f fn hf hfn => by
   obtain rfl:f=5:=Option.some.inj ((show Tryd.prog.funcNamed "portmanteau/portmanteaulaw27.ManifestBack"=some 5 by kernel_rfl).symm.trans hf) |>.symm
   obtain rfl:fn=Tryd.f5:=(Option.some.inj (Tryd.func5.symm.trans hfn)).symm
   exact ⟨by kernel_rfl,fun j t ht => by
    rw [Tryd.params5] at ht
    have hm:t ∈ [22,25]:=by simpa using Array.mem_of_getElem? ht
    have hall:([22,25].all fun u => !Tryd.prog.wantsStandIn u)=true:=by kernel_rfl
    exact (show Tryd.prog.wantsStandIn t=false by simpa using List.all_eq_true.1 hall t hm)⟩)
  (by kernel_rfl)
#print axioms manifestBack_card
end Go.Proofs.YtebbaokcgnjfiaaDoor
