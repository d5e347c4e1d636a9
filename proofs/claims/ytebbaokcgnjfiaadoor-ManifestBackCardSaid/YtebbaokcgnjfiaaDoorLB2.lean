import Derived.Test.YtebbaokcgnjfiaaDoorProg
import Derived.Test.YtebbaokcgnjfiaaDoorLBP
import Derived.Test.YtebbaokcgnjfiaaDoorLB1
set_option linter.unusedVariables false
set_option linter.unusedSimpArgs false
namespace Go.Proofs.YtebbaokcgnjfiaaDoor.F
open Go Go.RowKit Go.Proofs.YtebbaokcgnjfiaaDoor Go.Proofs.YtebbaokcgnjfiaaDoor.K
set_option maxRecDepth 100000
theorem internal_strconv_formatBase10_c {m:Mem} {w:World} (hm:Has m w) (ga0:Nat) (a:List UInt8) (len:Nat) (u:UInt64) {F:Nat → Prop} (hsep:Sep m w [blkI ga0 (a.map fU8) 86] F) (hF:∀ k,F k → m k=none) {r:(List UInt8)} (hf:internal_strconv_formatBase10 a len u=some r) :
  Calls Tryd.prog 55 #[.slice (some ⟨ga0,0,none⟩) len 24,.int .u64 (u.toNat:Int)] w fun e w' => ∃ v,e=.returned v ∧ ∃ m':Mem,v=.tuple #[] ∧ St w F m m' [blkI ga0 (r.map fU8) 86] w':=by
 unfold internal_strconv_formatBase10 at hf
 have H:=St.start hm hsep hF
 refine Fc Tryd.func55 ?_
 refine Sg 7 [.co [1,0],.co [1,1]] [(0,.slice (some ⟨ga0,0,none⟩) len 24),(1,.int .u64 (u.toNat:Int)),(4,.int .i64 (len:Int))] ?_
 obtain ⟨y210,hp210,hf⟩:=bindE hf
 refine joinR 0 (fun (x:(List UInt8) × UInt64 × Int) => [(0,.slice (some ⟨ga0,0,none⟩) len 24),(1,.int .u64 (x.2.1.toNat:Int)),(4,.int .i64 x.2.2)]) (fun (x:(List UInt8) × UInt64 × Int) (wj210:World) => y210=(x.1,x.2.1,x.2.2) ∧ St w F m m [blkI ga0 (x.1.map fU8) 86] wj210) (by kernel_rfl) ?_ ?_
 ·refine Sg 1 [.co [1,0,0],.bl 0,.le 0,.co [1,1]] [(0,.slice (some ⟨ga0,0,none⟩) len 24),(1,.int .u64 (u.toNat:Int)),(4,.int .i64 (len:Int))] ?_
  obtain ⟨nn264,hR264⟩:=loopO_iff.1 hp210
  refine Lp 1 (fun (x:Nat × (List UInt8) × UInt64 × Int) => [(0,.slice (some ⟨ga0,0,none⟩) len 24),(1,.int .u64 (x.2.2.1.toNat:Int)),(4,.int .i64 x.2.2.2)]) (fun (x:Nat × (List UInt8) × UInt64 × Int) (wl264:World) => iter (fun s => internal_strconv_formatBase10_l1 len s.1 s.2.1 s.2.2) x.1 (x.2.1,x.2.2.1,x.2.2.2)=some y210 ∧ St w F m m [blkI ga0 (x.2.1.map fU8) 86] wl264) (fun (x:Nat × (List UInt8) × UInt64 × Int) => x.1) (nn264,a,u,(len:Int)) ?_ ?_
  ·exact ⟨hR264,H⟩
  rintro ⟨n264,a1,u1,nd⟩ wl264 ⟨hR264,H⟩
  try dsimp only at hR264
  try dsimp only at H
  obtain ⟨nk264,q264,rfl,hb_264,hnx264,hfin264⟩:=iterE hR264
  replace hb_264:internal_strconv_formatBase10_l1 len a1 u1 nd=some q264:=hb_264
  unfold internal_strconv_formatBase10_l1 at hb_264
  refine Sg 6 [.co [1,0,0,0,0,1],.co [1,0,0,0,1],.le 1,.bl 0,.le 0,.co [1,1]] [(0,.slice (some ⟨ga0,0,none⟩) len 24),(1,.int .u64 (u1.toNat:Int)),(4,.int .i64 nd),(20,.bool (decide (nd ≥ 8)))] ?_
  rcases condT hb_264 with ⟨hb266,hb_264⟩ | ⟨hb266,hb_264⟩
  ·rw [hb266]
   have p266:=of_decide_eq_true hb266
   refine Sg 48 [.co [1,0,0,0,1,0,1,1,1,1,1,0],.co [1,0,0,0,1,0,1,1,1,1,1,1],.bl 1,.le 1,.bl 0,.le 0,.co [1,1]] [(0,.slice (some ⟨ga0,0,none⟩) len 24),(1,.int .u64 (IntKind.u64.wrap (Int.tdiv (u1.toNat:Int) 100000000))),(4,.int .i64 nd),(8,.int .u32 (IntKind.u32.wrap ((IntKind.u32.wrap (Int.tdiv (Int.tmod (IntKind.u32.wrap (Int.tmod (u1.toNat:Int) 100000000)) 10000) 100)) * 2))),(9,.int .u32 (IntKind.u32.wrap ((Int.tmod (Int.tmod (IntKind.u32.wrap (Int.tmod (u1.toNat:Int) 100000000)) 10000) 100) * 2))),(10,.int .u32 (IntKind.u32.wrap ((IntKind.u32.wrap (Int.tdiv (IntKind.u32.wrap (Int.tdiv (IntKind.u32.wrap (Int.tmod (u1.toNat:Int) 100000000)) 10000)) 100)) * 2))),(11,.int .u32 (IntKind.u32.wrap ((Int.tmod (IntKind.u32.wrap (Int.tdiv (IntKind.u32.wrap (Int.tmod (u1.toNat:Int) 100000000)) 10000)) 100) * 2)))] ?_
   rw [q64_quo u1 (100000000:UInt64) (u1.toNat:Int) 100000000 (by rfl) (by rfl)]
   rw [q64_rem u1 (100000000:UInt64) (u1.toNat:Int) 100000000 (by rfl) (by rfl)]
   rw [q32_wrap ((u1 % (100000000:UInt64)).toNat:Int)]
   rw [q32_wrap (Int.tdiv (Int.tmod ((UInt32.ofInt ((u1 % (100000000:UInt64)).toNat:Int)).toNat:Int) 10000) 100)]
   rw [q32_wrap (((UInt32.ofInt (Int.tdiv (Int.tmod ((UInt32.ofInt ((u1 % (100000000:UInt64)).toNat:Int)).toNat:Int) 10000) 100)).toNat:Int) * 2)]
   rw [q32_wrap ((Int.tmod (Int.tmod ((UInt32.ofInt ((u1 % (100000000:UInt64)).toNat:Int)).toNat:Int) 10000) 100) * 2)]
   rw [q32_wrap (Int.tdiv ((UInt32.ofInt ((u1 % (100000000:UInt64)).toNat:Int)).toNat:Int) 10000)]
   rw [q32_wrap (Int.tdiv ((UInt32.ofInt (Int.tdiv ((UInt32.ofInt ((u1 % (100000000:UInt64)).toNat:Int)).toNat:Int) 10000)).toNat:Int) 100)]
   rw [q32_wrap (((UInt32.ofInt (Int.tdiv ((UInt32.ofInt (Int.tdiv ((UInt32.ofInt ((u1 % (100000000:UInt64)).toNat:Int)).toNat:Int) 10000)).toNat:Int) 100)).toNat:Int) * 2)]
   rw [q32_wrap ((Int.tmod ((UInt32.ofInt (Int.tdiv ((UInt32.ofInt ((u1 % (100000000:UInt64)).toNat:Int)).toNat:Int) 10000)).toNat:Int) 100) * 2)]
   obtain ⟨c,h_c,hb_264⟩:=bindE hb_264
   obtain ⟨c1,h_c1,hb_264⟩:=bindE hb_264
   obtain ⟨x_,h_x_,hb_264⟩:=bindE hb_264
   obtain ⟨hc267,hb_264⟩:=chkE hb_264
   obtain ⟨i0268,i1268,ix268⟩:=idx_some h_x_
   obtain ⟨x_1,h_x_1,hb_264⟩:=bindE hb_264
   obtain ⟨hc270,hb_264⟩:=chkE hb_264
   obtain ⟨i0271,i1271,ix271⟩:=idx_some h_x_1
   have hst:statB (bodyOf Tryd.f55) [1,0,0,0,1,0,1,1,1,1,1,0]=true:=by kernel_rfl
   refine Dw (Has m) H ?_
   intro w273 H
   refine Sk hst [0,1,2] [0,1,2] [(0,.slice (some ⟨ga0,0,none⟩) len 24),(1,.int .u64 ((u1 / (100000000:UInt64)).toNat:Int)),(4,.int .i64 nd),(8,.int .u32 ((UInt32.ofInt (((UInt32.ofInt (Int.tdiv (Int.tmod ((UInt32.ofInt ((u1 % (100000000:UInt64)).toNat:Int)).toNat:Int) 10000) 100)).toNat:Int) * 2)).toNat:Int)),(9,.int .u32 ((UInt32.ofInt ((Int.tmod (Int.tmod ((UInt32.ofInt ((u1 % (100000000:UInt64)).toNat:Int)).toNat:Int) 10000) 100) * 2)).toNat:Int)),(10,.int .u32 ((UInt32.ofInt (((UInt32.ofInt (Int.tdiv ((UInt32.ofInt (Int.tdiv ((UInt32.ofInt ((u1 % (100000000:UInt64)).toNat:Int)).toNat:Int) 10000)).toNat:Int) 100)).toNat:Int) * 2)).toNat:Int)),(11,.int .u32 ((UInt32.ofInt ((Int.tmod ((UInt32.ofInt (Int.tdiv ((UInt32.ofInt ((u1 % (100000000:UInt64)).toNat:Int)).toNat:Int) 10000)).toNat:Int) 100) * 2)).toNat:Int)),(42,.slice (some ⟨ga0,0,none⟩) len 24),(44,.int .i64 (IntKind.i64.wrap (nd - 1)))] ?_
   refine Sk hst [3,4,5] [0,1,2,3,4,5] [(0,.slice (some ⟨ga0,0,none⟩) len 24),(1,.int .u64 ((u1 / (100000000:UInt64)).toNat:Int)),(4,.int .i64 nd),(8,.int .u32 ((UInt32.ofInt (((UInt32.ofInt (Int.tdiv (Int.tmod ((UInt32.ofInt ((u1 % (100000000:UInt64)).toNat:Int)).toNat:Int) 10000) 100)).toNat:Int) * 2)).toNat:Int)),(9,.int .u32 ((UInt32.ofInt ((Int.tmod (Int.tmod ((UInt32.ofInt ((u1 % (100000000:UInt64)).toNat:Int)).toNat:Int) 10000) 100) * 2)).toNat:Int)),(10,.int .u32 ((UInt32.ofInt (((UInt32.ofInt (Int.tdiv ((UInt32.ofInt (Int.tdiv ((UInt32.ofInt ((u1 % (100000000:UInt64)).toNat:Int)).toNat:Int) 10000)).toNat:Int) 100)).toNat:Int) * 2)).toNat:Int)),(11,.int .u32 ((UInt32.ofInt ((Int.tmod ((UInt32.ofInt (Int.tdiv ((UInt32.ofInt ((u1 % (100000000:UInt64)).toNat:Int)).toNat:Int) 10000)).toNat:Int) 100) * 2)).toNat:Int)),(42,.slice (some ⟨ga0,0,none⟩) len 24),(44,.int .i64 (IntKind.i64.wrap (nd - 1))),(45,.slice (some ⟨ga0,0,none⟩) len 24),(47,.int .i64 (IntKind.i64.wrap (nd - 2)))] ?_
   refine Sk hst [6,7] [0,1,2,3,4,5,6,7] [(0,.slice (some ⟨ga0,0,none⟩) len 24),(1,.int .u64 ((u1 / (100000000:UInt64)).toNat:Int)),(4,.int .i64 nd),(8,.int .u32 ((UInt32.ofInt (((UInt32.ofInt (Int.tdiv (Int.tmod ((UInt32.ofInt ((u1 % (100000000:UInt64)).toNat:Int)).toNat:Int) 10000) 100)).toNat:Int) * 2)).toNat:Int)),(9,.int .u32 ((UInt32.ofInt ((Int.tmod (Int.tmod ((UInt32.ofInt ((u1 % (100000000:UInt64)).toNat:Int)).toNat:Int) 10000) 100) * 2)).toNat:Int)),(10,.int .u32 ((UInt32.ofInt (((UInt32.ofInt (Int.tdiv ((UInt32.ofInt (Int.tdiv ((UInt32.ofInt ((u1 % (100000000:UInt64)).toNat:Int)).toNat:Int) 10000)).toNat:Int) 100)).toNat:Int) * 2)).toNat:Int)),(11,.int .u32 ((UInt32.ofInt ((Int.tmod ((UInt32.ofInt (Int.tdiv ((UInt32.ofInt ((u1 % (100000000:UInt64)).toNat:Int)).toNat:Int) 10000)).toNat:Int) 100) * 2)).toNat:Int)),(42,.slice (some ⟨ga0,0,none⟩) len 24),(44,.int .i64 (IntKind.i64.wrap (nd - 1))),(45,.slice (some ⟨ga0,0,none⟩) len 24),(47,.int .i64 (IntKind.i64.wrap (nd - 2))),(49,.int .u32 (IntKind.u32.wrap (((UInt32.ofInt ((Int.tmod (Int.tmod ((UInt32.ofInt ((u1 % (100000000:UInt64)).toNat:Int)).toNat:Int) 10000) 100) * 2)).toNat:Int)+1)))] ?_
   rw [q32_wrap (((UInt32.ofInt ((Int.tmod (Int.tmod ((UInt32.ofInt ((u1 % (100000000:UInt64)).toNat:Int)).toNat:Int) 10000) 100) * 2)).toNat:Int)+1)]
   refine Sk hst [9] [0,1,2,3,4,5,6,7,9] [(0,.slice (some ⟨ga0,0,none⟩) len 24),(1,.int .u64 ((u1 / (100000000:UInt64)).toNat:Int)),(4,.int .i64 nd),(8,.int .u32 ((UInt32.ofInt (((UInt32.ofInt (Int.tdiv (Int.tmod ((UInt32.ofInt ((u1 % (100000000:UInt64)).toNat:Int)).toNat:Int) 10000) 100)).toNat:Int) * 2)).toNat:Int)),(10,.int .u32 ((UInt32.ofInt (((UInt32.ofInt (Int.tdiv ((UInt32.ofInt (Int.tdiv ((UInt32.ofInt ((u1 % (100000000:UInt64)).toNat:Int)).toNat:Int) 10000)).toNat:Int) 100)).toNat:Int) * 2)).toNat:Int)),(11,.int .u32 ((UInt32.ofInt ((Int.tmod ((UInt32.ofInt (Int.tdiv ((UInt32.ofInt ((u1 % (100000000:UInt64)).toNat:Int)).toNat:Int) 10000)).toNat:Int) 100) * 2)).toNat:Int)),(42,.slice (some ⟨ga0,0,none⟩) len 24),(44,.int .i64 (IntKind.i64.wrap (nd - 1))),(45,.slice (some ⟨ga0,0,none⟩) len 24),(47,.int .i64 (IntKind.i64.wrap (nd - 2))),(49,.int .u32 ((UInt32.ofInt (((UInt32.ofInt ((Int.tmod (Int.tmod ((UInt32.ofInt ((u1 % (100000000:UInt64)).toNat:Int)).toNat:Int) 10000) 100) * 2)).toNat:Int)+1)).toNat:Int)),(51,.int .u32 ((UInt32.ofInt ((Int.tmod (Int.tmod ((UInt32.ofInt ((u1 % (100000000:UInt64)).toNat:Int)).toNat:Int) 10000) 100) * 2)).toNat:Int))] ?_
   refine Tk (i:=8) (d:=(some 50)) (s:=vS (Instr.index 9 (.string ⟨([48,48,48,49,48,50,48,51,48,52,48,53,48,54,48,55,48,56,48,57,49,48,49,49,49,50,49,51,49,52,49,53,49,54,49,55,49,56,49,57,50,48,50,49,50,50,50,51,50,52,50,53,50,54,50,55,50,56,50,57,51,48,51,49,51,50,51,51,51,52,51,53,51,54,51,55,51,56,51,57,52,48,52,49,52,50,52,51,52,52,52,53,52,54,52,55,52,56,52,57,53,48,53,49,53,50,53,51,53,52,53,53,53,54,53,55,53,56,53,57,54,48,54,49,54,50,54,51,54,52,54,53,54,54,54,55,54,56,54,57,55,48,55,49,55,50,55,51,55,52,55,53,55,54,55,55,55,56,55,57,56,48,56,49,56,50,56,51,56,52,56,53,56,54,56,55,56,56,56,57,57,48,57,49,57,50,57,51,57,52,57,53,57,54,57,55,57,56,57,57]:List UInt8).toArray⟩) (.int .u32 ((UInt32.ofInt (((UInt32.ofInt ((Int.tmod (Int.tmod ((UInt32.ofInt ((u1 % (100000000:UInt64)).toNat:Int)).toNat:Int) 10000) 100) * 2)).toNat:Int)+1)).toNat:Int)))) (v:=.int .u8 (c.toNat:Int)) hst (fun w' hw' => str_idx_run _ _ _ _ _ (by kernel_rfl) h_c) ?_
   refine Tk (i:=10) (d:=(some 52)) (s:=vS (Instr.index 9 (.string ⟨([48,48,48,49,48,50,48,51,48,52,48,53,48,54,48,55,48,56,48,57,49,48,49,49,49,50,49,51,49,52,49,53,49,54,49,55,49,56,49,57,50,48,50,49,50,50,50,51,50,52,50,53,50,54,50,55,50,56,50,57,51,48,51,49,51,50,51,51,51,52,51,53,51,54,51,55,51,56,51,57,52,48,52,49,52,50,52,51,52,52,52,53,52,54,52,55,52,56,52,57,53,48,53,49,53,50,53,51,53,52,53,53,53,54,53,55,53,56,53,57,54,48,54,49,54,50,54,51,54,52,54,53,54,54,54,55,54,56,54,57,55,48,55,49,55,50,55,51,55,52,55,53,55,54,55,55,55,56,55,57,56,48,56,49,56,50,56,51,56,52,56,53,56,54,56,55,56,56,56,57,57,48,57,49,57,50,57,51,57,52,57,53,57,54,57,55,57,56,57,57]:List UInt8).toArray⟩) (.int .u32 ((UInt32.ofInt ((Int.tmod (Int.tmod ((UInt32.ofInt ((u1 % (100000000:UInt64)).toNat:Int)).toNat:Int) 10000) 100) * 2)).toNat:Int)))) (v:=.int .u8 (c1.toNat:Int)) hst (fun w' hw' => str_idx_run _ _ _ _ _ (by kernel_rfl) h_c1) ?_
   replace H:St w F m m [blkI ga0 (a1.map fU8) 86] w273:=H
   obtain ⟨i0274,i1274,ix274⟩:=idx_some h_x_
   refine Sd (i:=11) H.has (idxSA (some 53) 25 5 ga0 len 24 .i64 (IntKind.i64.wrap (nd - 1)) (by kernel_rfl) (by kernel_rfl) i0274 (of_decide_eq_true hc267) ?_)
   refine Sd (i:=12) H.has (stAS fU8 none 5 0 ga0 ((IntKind.i64.wrap (nd - 1)).toNat) c a1 86 H rfl (by kernel_rfl) (by kernel_rfl) rfl (List.getElem?_eq_some_iff.1 ix274).1 ?_)
   intro w275 H
   obtain ⟨i0276,i1276,ix276⟩:=idx_some h_x_1
   refine Sd (i:=13) H.has (idxSA (some 54) 25 5 ga0 len 24 .i64 (IntKind.i64.wrap (nd - 2)) (by kernel_rfl) (by kernel_rfl) i0276 (of_decide_eq_true hc270) ?_)
   refine Sd (i:=14) H.has (stAS fU8 none 5 0 ga0 ((IntKind.i64.wrap (nd - 2)).toNat) c1 (a1.set ((IntKind.i64.wrap (nd - 1)).toNat) c) 86 H rfl (by kernel_rfl) (by kernel_rfl) rfl (List.getElem?_eq_some_iff.1 ix276).1 ?_)
   intro w277 H
   refine Ed H.has ?_
   refine Sg 1 [.co [1,0,0,0,1,0,1,1,1,1,1,1,0],.co [1,0,0,0,1,0,1,1,1,1,1,1,1],.bl 1,.le 1,.bl 0,.le 0,.co [1,1]] [(0,.slice (some ⟨ga0,0,none⟩) len 24),(1,.int .u64 ((u1 / (100000000:UInt64)).toNat:Int)),(4,.int .i64 nd),(8,.int .u32 ((UInt32.ofInt (((UInt32.ofInt (Int.tdiv (Int.tmod ((UInt32.ofInt ((u1 % (100000000:UInt64)).toNat:Int)).toNat:Int) 10000) 100)).toNat:Int) * 2)).toNat:Int)),(10,.int .u32 ((UInt32.ofInt (((UInt32.ofInt (Int.tdiv ((UInt32.ofInt (Int.tdiv ((UInt32.ofInt ((u1 % (100000000:UInt64)).toNat:Int)).toNat:Int) 10000)).toNat:Int) 100)).toNat:Int) * 2)).toNat:Int)),(11,.int .u32 ((UInt32.ofInt ((Int.tmod ((UInt32.ofInt (Int.tdiv ((UInt32.ofInt ((u1 % (100000000:UInt64)).toNat:Int)).toNat:Int) 10000)).toNat:Int) 100) * 2)).toNat:Int))] ?_
   obtain ⟨c2,h_c2,hb_264⟩:=bindE hb_264
   obtain ⟨c3,h_c3,hb_264⟩:=bindE hb_264
   obtain ⟨x_2,h_x_2,hb_264⟩:=bindE hb_264
   obtain ⟨hc278,hb_264⟩:=chkE hb_264
   obtain ⟨i0279,i1279,ix279⟩:=idx_some h_x_2
   obtain ⟨x_3,h_x_3,hb_264⟩:=bindE hb_264
   obtain ⟨hc281,hb_264⟩:=chkE hb_264
   obtain ⟨i0282,i1282,ix282⟩:=idx_some h_x_3
   have hst:statB (bodyOf Tryd.f55) [1,0,0,0,1,0,1,1,1,1,1,1,0]=true:=by kernel_rfl
   refine Dw (Has m) H ?_
   intro w284 H
   refine Sk hst [0,1,2] [0,1,2] [(0,.slice (some ⟨ga0,0,none⟩) len 24),(1,.int .u64 ((u1 / (100000000:UInt64)).toNat:Int)),(4,.int .i64 nd),(8,.int .u32 ((UInt32.ofInt (((UInt32.ofInt (Int.tdiv (Int.tmod ((UInt32.ofInt ((u1 % (100000000:UInt64)).toNat:Int)).toNat:Int) 10000) 100)).toNat:Int) * 2)).toNat:Int)),(10,.int .u32 ((UInt32.ofInt (((UInt32.ofInt (Int.tdiv ((UInt32.ofInt (Int.tdiv ((UInt32.ofInt ((u1 % (100000000:UInt64)).toNat:Int)).toNat:Int) 10000)).toNat:Int) 100)).toNat:Int) * 2)).toNat:Int)),(11,.int .u32 ((UInt32.ofInt ((Int.tmod ((UInt32.ofInt (Int.tdiv ((UInt32.ofInt ((u1 % (100000000:UInt64)).toNat:Int)).toNat:Int) 10000)).toNat:Int) 100) * 2)).toNat:Int)),(55,.slice (some ⟨ga0,0,none⟩) len 24),(57,.int .i64 (IntKind.i64.wrap (nd - 3)))] ?_
   refine Sk hst [3,4,5] [0,1,2,3,4,5] [(0,.slice (some ⟨ga0,0,none⟩) len 24),(1,.int .u64 ((u1 / (100000000:UInt64)).toNat:Int)),(4,.int .i64 nd),(8,.int .u32 ((UInt32.ofInt (((UInt32.ofInt (Int.tdiv (Int.tmod ((UInt32.ofInt ((u1 % (100000000:UInt64)).toNat:Int)).toNat:Int) 10000) 100)).toNat:Int) * 2)).toNat:Int)),(10,.int .u32 ((UInt32.ofInt (((UInt32.ofInt (Int.tdiv ((UInt32.ofInt (Int.tdiv ((UInt32.ofInt ((u1 % (100000000:UInt64)).toNat:Int)).toNat:Int) 10000)).toNat:Int) 100)).toNat:Int) * 2)).toNat:Int)),(11,.int .u32 ((UInt32.ofInt ((Int.tmod ((UInt32.ofInt (Int.tdiv ((UInt32.ofInt ((u1 % (100000000:UInt64)).toNat:Int)).toNat:Int) 10000)).toNat:Int) 100) * 2)).toNat:Int)),(55,.slice (some ⟨ga0,0,none⟩) len 24),(57,.int .i64 (IntKind.i64.wrap (nd - 3))),(58,.slice (some ⟨ga0,0,none⟩) len 24),(60,.int .i64 (IntKind.i64.wrap (nd - 4)))] ?_
   refine Sk hst [6,7] [0,1,2,3,4,5,6,7] [(0,.slice (some ⟨ga0,0,none⟩) len 24),(1,.int .u64 ((u1 / (100000000:UInt64)).toNat:Int)),(4,.int .i64 nd),(8,.int .u32 ((UInt32.ofInt (((UInt32.ofInt (Int.tdiv (Int.tmod ((UInt32.ofInt ((u1 % (100000000:UInt64)).toNat:Int)).toNat:Int) 10000) 100)).toNat:Int) * 2)).toNat:Int)),(10,.int .u32 ((UInt32.ofInt (((UInt32.ofInt (Int.tdiv ((UInt32.ofInt (Int.tdiv ((UInt32.ofInt ((u1 % (100000000:UInt64)).toNat:Int)).toNat:Int) 10000)).toNat:Int) 100)).toNat:Int) * 2)).toNat:Int)),(11,.int .u32 ((UInt32.ofInt ((Int.tmod ((UInt32.ofInt (Int.tdiv ((UInt32.ofInt ((u1 % (100000000:UInt64)).toNat:Int)).toNat:Int) 10000)).toNat:Int) 100) * 2)).toNat:Int)),(55,.slice (some ⟨ga0,0,none⟩) len 24),(57,.int .i64 (IntKind.i64.wrap (nd - 3))),(58,.slice (some ⟨ga0,0,none⟩) len 24),(60,.int .i64 (IntKind.i64.wrap (nd - 4))),(62,.int .u32 (IntKind.u32.wrap (((UInt32.ofInt (((UInt32.ofInt (Int.tdiv (Int.tmod ((UInt32.ofInt ((u1 % (100000000:UInt64)).toNat:Int)).toNat:Int) 10000) 100)).toNat:Int) * 2)).toNat:Int)+1)))] ?_
   rw [q32_wrap (((UInt32.ofInt (((UInt32.ofInt (Int.tdiv (Int.tmod ((UInt32.ofInt ((u1 % (100000000:UInt64)).toNat:Int)).toNat:Int) 10000) 100)).toNat:Int) * 2)).toNat:Int)+1)]
   refine Sk hst [9] [0,1,2,3,4,5,6,7,9] [(0,.slice (some ⟨ga0,0,none⟩) len 24),(1,.int .u64 ((u1 / (100000000:UInt64)).toNat:Int)),(4,.int .i64 nd),(10,.int .u32 ((UInt32.ofInt (((UInt32.ofInt (Int.tdiv ((UInt32.ofInt (Int.tdiv ((UInt32.ofInt ((u1 % (100000000:UInt64)).toNat:Int)).toNat:Int) 10000)).toNat:Int) 100)).toNat:Int) * 2)).toNat:Int)),(11,.int .u32 ((UInt32.ofInt ((Int.tmod ((UInt32.ofInt (Int.tdiv ((UInt32.ofInt ((u1 % (100000000:UInt64)).toNat:Int)).toNat:Int) 10000)).toNat:Int) 100) * 2)).toNat:Int)),(55,.slice (some ⟨ga0,0,none⟩) len 24),(57,.int .i64 (IntKind.i64.wrap (nd - 3))),(58,.slice (some ⟨ga0,0,none⟩) len 24),(60,.int .i64 (IntKind.i64.wrap (nd - 4))),(62,.int .u32 ((UInt32.ofInt (((UInt32.ofInt (((UInt32.ofInt (Int.tdiv (Int.tmod ((UInt32.ofInt ((u1 % (100000000:UInt64)).toNat:Int)).toNat:Int) 10000) 100)).toNat:Int) * 2)).toNat:Int)+1)).toNat:Int)),(64,.int .u32 ((UInt32.ofInt (((UInt32.ofInt (Int.tdiv (Int.tmod ((UInt32.ofInt ((u1 % (100000000:UInt64)).toNat:Int)).toNat:Int) 10000) 100)).toNat:Int) * 2)).toNat:Int))] ?_
   refine Tk (i:=8) (d:=(some 63)) (s:=vS (Instr.index 9 (.string ⟨([48,48,48,49,48,50,48,51,48,52,48,53,48,54,48,55,48,56,48,57,49,48,49,49,49,50,49,51,49,52,49,53,49,54,49,55,49,56,49,57,50,48,50,49,50,50,50,51,50,52,50,53,50,54,50,55,50,56,50,57,51,48,51,49,51,50,51,51,51,52,51,53,51,54,51,55,51,56,51,57,52,48,52,49,52,50,52,51,52,52,52,53,52,54,52,55,52,56,52,57,53,48,53,49,53,50,53,51,53,52,53,53,53,54,53,55,53,56,53,57,54,48,54,49,54,50,54,51,54,52,54,53,54,54,54,55,54,56,54,57,55,48,55,49,55,50,55,51,55,52,55,53,55,54,55,55,55,56,55,57,56,48,56,49,56,50,56,51,56,52,56,53,56,54,56,55,56,56,56,57,57,48,57,49,57,50,57,51,57,52,57,53,57,54,57,55,57,56,57,57]:List UInt8).toArray⟩) (.int .u32 ((UInt32.ofInt (((UInt32.ofInt (((UInt32.ofInt (Int.tdiv (Int.tmod ((UInt32.ofInt ((u1 % (100000000:UInt64)).toNat:Int)).toNat:Int) 10000) 100)).toNat:Int) * 2)).toNat:Int)+1)).toNat:Int)))) (v:=.int .u8 (c2.toNat:Int)) hst (fun w' hw' => str_idx_run _ _ _ _ _ (by kernel_rfl) h_c2) ?_
   refine Tk (i:=10) (d:=(some 65)) (s:=vS (Instr.index 9 (.string ⟨([48,48,48,49,48,50,48,51,48,52,48,53,48,54,48,55,48,56,48,57,49,48,49,49,49,50,49,51,49,52,49,53,49,54,49,55,49,56,49,57,50,48,50,49,50,50,50,51,50,52,50,53,50,54,50,55,50,56,50,57,51,48,51,49,51,50,51,51,51,52,51,53,51,54,51,55,51,56,51,57,52,48,52,49,52,50,52,51,52,52,52,53,52,54,52,55,52,56,52,57,53,48,53,49,53,50,53,51,53,52,53,53,53,54,53,55,53,56,53,57,54,48,54,49,54,50,54,51,54,52,54,53,54,54,54,55,54,56,54,57,55,48,55,49,55,50,55,51,55,52,55,53,55,54,55,55,55,56,55,57,56,48,56,49,56,50,56,51,56,52,56,53,56,54,56,55,56,56,56,57,57,48,57,49,57,50,57,51,57,52,57,53,57,54,57,55,57,56,57,57]:List UInt8).toArray⟩) (.int .u32 ((UInt32.ofInt (((UInt32.ofInt (Int.tdiv (Int.tmod ((UInt32.ofInt ((u1 % (100000000:UInt64)).toNat:Int)).toNat:Int) 10000) 100)).toNat:Int) * 2)).toNat:Int)))) (v:=.int .u8 (c3.toNat:Int)) hst (fun w' hw' => str_idx_run _ _ _ _ _ (by kernel_rfl) h_c3) ?_
   replace H:St w F m m [blkI ga0 (((a1.set ((IntKind.i64.wrap (nd - 1)).toNat) c).set ((IntKind.i64.wrap (nd - 2)).toNat) c1).map fU8) 86] w284:=H
   obtain ⟨i0285,i1285,ix285⟩:=idx_some h_x_2
   refine Sd (i:=11) H.has (idxSA (some 66) 25 5 ga0 len 24 .i64 (IntKind.i64.wrap (nd - 3)) (by kernel_rfl) (by kernel_rfl) i0285 (of_decide_eq_true hc278) ?_)
   refine Sd (i:=12) H.has (stAS fU8 none 5 0 ga0 ((IntKind.i64.wrap (nd - 3)).toNat) c2 ((a1.set ((IntKind.i64.wrap (nd - 1)).toNat) c).set ((IntKind.i64.wrap (nd - 2)).toNat) c1) 86 H rfl (by kernel_rfl) (by kernel_rfl) rfl (List.getElem?_eq_some_iff.1 ix285).1 ?_)
   intro w286 H
   obtain ⟨i0287,i1287,ix287⟩:=idx_some h_x_3
   refine Sd (i:=13) H.has (idxSA (some 67) 25 5 ga0 len 24 .i64 (IntKind.i64.wrap (nd - 4)) (by kernel_rfl) (by kernel_rfl) i0287 (of_decide_eq_true hc281) ?_)
   refine Sd (i:=14) H.has (stAS fU8 none 5 0 ga0 ((IntKind.i64.wrap (nd - 4)).toNat) c3 (((a1.set ((IntKind.i64.wrap (nd - 1)).toNat) c).set ((IntKind.i64.wrap (nd - 2)).toNat) c1).set ((IntKind.i64.wrap (nd - 3)).toNat) c2) 86 H rfl (by kernel_rfl) (by kernel_rfl) rfl (List.getElem?_eq_some_iff.1 ix287).1 ?_)
   intro w288 H
   refine Ed H.has ?_
   refine Sg 1 [.co [1,0,0,0,1,0,1,1,1,1,1,1,1,0],.co [1,0,0,0,1,0,1,1,1,1,1,1,1,1],.bl 1,.le 1,.bl 0,.le 0,.co [1,1]] [(0,.slice (some ⟨ga0,0,none⟩) len 24),(1,.int .u64 ((u1 / (100000000:UInt64)).toNat:Int)),(4,.int .i64 nd),(10,.int .u32 ((UInt32.ofInt (((UInt32.ofInt (Int.tdiv ((UInt32.ofInt (Int.tdiv ((UInt32.ofInt ((u1 % (100000000:UInt64)).toNat:Int)).toNat:Int) 10000)).toNat:Int) 100)).toNat:Int) * 2)).toNat:Int)),(11,.int .u32 ((UInt32.ofInt ((Int.tmod ((UInt32.ofInt (Int.tdiv ((UInt32.ofInt ((u1 % (100000000:UInt64)).toNat:Int)).toNat:Int) 10000)).toNat:Int) 100) * 2)).toNat:Int))] ?_
   obtain ⟨c4,h_c4,hb_264⟩:=bindE hb_264
   obtain ⟨c5,h_c5,hb_264⟩:=bindE hb_264
   obtain ⟨x_4,h_x_4,hb_264⟩:=bindE hb_264
   obtain ⟨hc289,hb_264⟩:=chkE hb_264
   obtain ⟨i0290,i1290,ix290⟩:=idx_some h_x_4
   obtain ⟨x_5,h_x_5,hb_264⟩:=bindE hb_264
   obtain ⟨hc292,hb_264⟩:=chkE hb_264
   obtain ⟨i0293,i1293,ix293⟩:=idx_some h_x_5
   have hst:statB (bodyOf Tryd.f55) [1,0,0,0,1,0,1,1,1,1,1,1,1,0]=true:=by kernel_rfl
   refine Dw (Has m) H ?_
   intro w295 H
   refine Sk hst [0,1,2] [0,1,2] [(0,.slice (some ⟨ga0,0,none⟩) len 24),(1,.int .u64 ((u1 / (100000000:UInt64)).toNat:Int)),(4,.int .i64 nd),(10,.int .u32 ((UInt32.ofInt (((UInt32.ofInt (Int.tdiv ((UInt32.ofInt (Int.tdiv ((UInt32.ofInt ((u1 % (100000000:UInt64)).toNat:Int)).toNat:Int) 10000)).toNat:Int) 100)).toNat:Int) * 2)).toNat:Int)),(11,.int .u32 ((UInt32.ofInt ((Int.tmod ((UInt32.ofInt (Int.tdiv ((UInt32.ofInt ((u1 % (100000000:UInt64)).toNat:Int)).toNat:Int) 10000)).toNat:Int) 100) * 2)).toNat:Int)),(68,.slice (some ⟨ga0,0,none⟩) len 24),(70,.int .i64 (IntKind.i64.wrap (nd - 5)))] ?_
   refine Sk hst [3,4,5] [0,1,2,3,4,5] [(0,.slice (some ⟨ga0,0,none⟩) len 24),(1,.int .u64 ((u1 / (100000000:UInt64)).toNat:Int)),(4,.int .i64 nd),(10,.int .u32 ((UInt32.ofInt (((UInt32.ofInt (Int.tdiv ((UInt32.ofInt (Int.tdiv ((UInt32.ofInt ((u1 % (100000000:UInt64)).toNat:Int)).toNat:Int) 10000)).toNat:Int) 100)).toNat:Int) * 2)).toNat:Int)),(11,.int .u32 ((UInt32.ofInt ((Int.tmod ((UInt32.ofInt (Int.tdiv ((UInt32.ofInt ((u1 % (100000000:UInt64)).toNat:Int)).toNat:Int) 10000)).toNat:Int) 100) * 2)).toNat:Int)),(68,.slice (some ⟨ga0,0,none⟩) len 24),(70,.int .i64 (IntKind.i64.wrap (nd - 5))),(71,.slice (some ⟨ga0,0,none⟩) len 24),(73,.int .i64 (IntKind.i64.wrap (nd - 6)))] ?_
   refine Sk hst [6,7] [0,1,2,3,4,5,6,7] [(0,.slice (some ⟨ga0,0,none⟩) len 24),(1,.int .u64 ((u1 / (100000000:UInt64)).toNat:Int)),(4,.int .i64 nd),(10,.int .u32 ((UInt32.ofInt (((UInt32.ofInt (Int.tdiv ((UInt32.ofInt (Int.tdiv ((UInt32.ofInt ((u1 % (100000000:UInt64)).toNat:Int)).toNat:Int) 10000)).toNat:Int) 100)).toNat:Int) * 2)).toNat:Int)),(11,.int .u32 ((UInt32.ofInt ((Int.tmod ((UInt32.ofInt (Int.tdiv ((UInt32.ofInt ((u1 % (100000000:UInt64)).toNat:Int)).toNat:Int) 10000)).toNat:Int) 100) * 2)).toNat:Int)),(68,.slice (some ⟨ga0,0,none⟩) len 24),(70,.int .i64 (IntKind.i64.wrap (nd - 5))),(71,.slice (some ⟨ga0,0,none⟩) len 24),(73,.int .i64 (IntKind.i64.wrap (nd - 6))),(75,.int .u32 (IntKind.u32.wrap (((UInt32.ofInt ((Int.tmod ((UInt32.ofInt (Int.tdiv ((UInt32.ofInt ((u1 % (100000000:UInt64)).toNat:Int)).toNat:Int) 10000)).toNat:Int) 100) * 2)).toNat:Int)+1)))] ?_
   rw [q32_wrap (((UInt32.ofInt ((Int.tmod ((UInt32.ofInt (Int.tdiv ((UInt32.ofInt ((u1 % (100000000:UInt64)).toNat:Int)).toNat:Int) 10000)).toNat:Int) 100) * 2)).toNat:Int)+1)]
   refine Sk hst [9] [0,1,2,3,4,5,6,7,9] [(0,.slice (some ⟨ga0,0,none⟩) len 24),(1,.int .u64 ((u1 / (100000000:UInt64)).toNat:Int)),(4,.int .i64 nd),(10,.int .u32 ((UInt32.ofInt (((UInt32.ofInt (Int.tdiv ((UInt32.ofInt (Int.tdiv ((UInt32.ofInt ((u1 % (100000000:UInt64)).toNat:Int)).toNat:Int) 10000)).toNat:Int) 100)).toNat:Int) * 2)).toNat:Int)),(68,.slice (some ⟨ga0,0,none⟩) len 24),(70,.int .i64 (IntKind.i64.wrap (nd - 5))),(71,.slice (some ⟨ga0,0,none⟩) len 24),(73,.int .i64 (IntKind.i64.wrap (nd - 6))),(75,.int .u32 ((UInt32.ofInt (((UInt32.ofInt ((Int.tmod ((UInt32.ofInt (Int.tdiv ((UInt32.ofInt ((u1 % (100000000:UInt64)).toNat:Int)).toNat:Int) 10000)).toNat:Int) 100) * 2)).toNat:Int)+1)).toNat:Int)),(77,.int .u32 ((UInt32.ofInt ((Int.tmod ((UInt32.ofInt (Int.tdiv ((UInt32.ofInt ((u1 % (100000000:UInt64)).toNat:Int)).toNat:Int) 10000)).toNat:Int) 100) * 2)).toNat:Int))] ?_
   refine Tk (i:=8) (d:=(some 76)) (s:=vS (Instr.index 9 (.string ⟨([48,48,48,49,48,50,48,51,48,52,48,53,48,54,48,55,48,56,48,57,49,48,49,49,49,50,49,51,49,52,49,53,49,54,49,55,49,56,49,57,50,48,50,49,50,50,50,51,50,52,50,53,50,54,50,55,50,56,50,57,51,48,51,49,51,50,51,51,51,52,51,53,51,54,51,55,51,56,51,57,52,48,52,49,52,50,52,51,52,52,52,53,52,54,52,55,52,56,52,57,53,48,53,49,53,50,53,51,53,52,53,53,53,54,53,55,53,56,53,57,54,48,54,49,54,50,54,51,54,52,54,53,54,54,54,55,54,56,54,57,55,48,55,49,55,50,55,51,55,52,55,53,55,54,55,55,55,56,55,57,56,48,56,49,56,50,56,51,56,52,56,53,56,54,56,55,56,56,56,57,57,48,57,49,57,50,57,51,57,52,57,53,57,54,57,55,57,56,57,57]:List UInt8).toArray⟩) (.int .u32 ((UInt32.ofInt (((UInt32.ofInt ((Int.tmod ((UInt32.ofInt (Int.tdiv ((UInt32.ofInt ((u1 % (100000000:UInt64)).toNat:Int)).toNat:Int) 10000)).toNat:Int) 100) * 2)).toNat:Int)+1)).toNat:Int)))) (v:=.int .u8 (c4.toNat:Int)) hst (fun w' hw' => str_idx_run _ _ _ _ _ (by kernel_rfl) h_c4) ?_
   refine Tk (i:=10) (d:=(some 78)) (s:=vS (Instr.index 9 (.string ⟨([48,48,48,49,48,50,48,51,48,52,48,53,48,54,48,55,48,56,48,57,49,48,49,49,49,50,49,51,49,52,49,53,49,54,49,55,49,56,49,57,50,48,50,49,50,50,50,51,50,52,50,53,50,54,50,55,50,56,50,57,51,48,51,49,51,50,51,51,51,52,51,53,51,54,51,55,51,56,51,57,52,48,52,49,52,50,52,51,52,52,52,53,52,54,52,55,52,56,52,57,53,48,53,49,53,50,53,51,53,52,53,53,53,54,53,55,53,56,53,57,54,48,54,49,54,50,54,51,54,52,54,53,54,54,54,55,54,56,54,57,55,48,55,49,55,50,55,51,55,52,55,53,55,54,55,55,55,56,55,57,56,48,56,49,56,50,56,51,56,52,56,53,56,54,56,55,56,56,56,57,57,48,57,49,57,50,57,51,57,52,57,53,57,54,57,55,57,56,57,57]:List UInt8).toArray⟩) (.int .u32 ((UInt32.ofInt ((Int.tmod ((UInt32.ofInt (Int.tdiv ((UInt32.ofInt ((u1 % (100000000:UInt64)).toNat:Int)).toNat:Int) 10000)).toNat:Int) 100) * 2)).toNat:Int)))) (v:=.int .u8 (c5.toNat:Int)) hst (fun w' hw' => str_idx_run _ _ _ _ _ (by kernel_rfl) h_c5) ?_
   replace H:St w F m m [blkI ga0 (((((a1.set ((IntKind.i64.wrap (nd - 1)).toNat) c).set ((IntKind.i64.wrap (nd - 2)).toNat) c1).set ((IntKind.i64.wrap (nd - 3)).toNat) c2).set ((IntKind.i64.wrap (nd - 4)).toNat) c3).map fU8) 86] w295:=H
   obtain ⟨i0296,i1296,ix296⟩:=idx_some h_x_4
   refine Sd (i:=11) H.has (idxSA (some 79) 25 5 ga0 len 24 .i64 (IntKind.i64.wrap (nd - 5)) (by kernel_rfl) (by kernel_rfl) i0296 (of_decide_eq_true hc289) ?_)
   refine Sd (i:=12) H.has (stAS fU8 none 5 0 ga0 ((IntKind.i64.wrap (nd - 5)).toNat) c4 ((((a1.set ((IntKind.i64.wrap (nd - 1)).toNat) c).set ((IntKind.i64.wrap (nd - 2)).toNat) c1).set ((IntKind.i64.wrap (nd - 3)).toNat) c2).set ((IntKind.i64.wrap (nd - 4)).toNat) c3) 86 H rfl (by kernel_rfl) (by kernel_rfl) rfl (List.getElem?_eq_some_iff.1 ix296).1 ?_)
   intro w297 H
   obtain ⟨i0298,i1298,ix298⟩:=idx_some h_x_5
   refine Sd (i:=13) H.has (idxSA (some 80) 25 5 ga0 len 24 .i64 (IntKind.i64.wrap (nd - 6)) (by kernel_rfl) (by kernel_rfl) i0298 (of_decide_eq_true hc292) ?_)
   refine Sd (i:=14) H.has (stAS fU8 none 5 0 ga0 ((IntKind.i64.wrap (nd - 6)).toNat) c5 (((((a1.set ((IntKind.i64.wrap (nd - 1)).toNat) c).set ((IntKind.i64.wrap (nd - 2)).toNat) c1).set ((IntKind.i64.wrap (nd - 3)).toNat) c2).set ((IntKind.i64.wrap (nd - 4)).toNat) c3).set ((IntKind.i64.wrap (nd - 5)).toNat) c4) 86 H rfl (by kernel_rfl) (by kernel_rfl) rfl (List.getElem?_eq_some_iff.1 ix298).1 ?_)
   intro w299 H
   refine Ed H.has ?_
   refine Sg 1 [.co [1,0,0,0,1,0,1,1,1,1,1,1,1,1,0],.co [1,0,0,0,1,0,1,1,1,1,1,1,1,1,1],.bl 1,.le 1,.bl 0,.le 0,.co [1,1]] [(0,.slice (some ⟨ga0,0,none⟩) len 24),(1,.int .u64 ((u1 / (100000000:UInt64)).toNat:Int)),(4,.int .i64 nd),(10,.int .u32 ((UInt32.ofInt (((UInt32.ofInt (Int.tdiv ((UInt32.ofInt (Int.tdiv ((UInt32.ofInt ((u1 % (100000000:UInt64)).toNat:Int)).toNat:Int) 10000)).toNat:Int) 100)).toNat:Int) * 2)).toNat:Int))] ?_
   obtain ⟨c6,h_c6,hb_264⟩:=bindE hb_264
   obtain ⟨c7,h_c7,hb_264⟩:=bindE hb_264
   obtain ⟨x_6,h_x_6,hb_264⟩:=bindE hb_264
   obtain ⟨hc300,hb_264⟩:=chkE hb_264
   obtain ⟨i0301,i1301,ix301⟩:=idx_some h_x_6
   obtain ⟨x_7,h_x_7,hb_264⟩:=bindE hb_264
   obtain ⟨hc303,hb_264⟩:=chkE hb_264
   obtain ⟨i0304,i1304,ix304⟩:=idx_some h_x_7
   have hst:statB (bodyOf Tryd.f55) [1,0,0,0,1,0,1,1,1,1,1,1,1,1,0]=true:=by kernel_rfl
   refine Dw (Has m) H ?_
   intro w306 H
   refine Sk hst [0,1,2] [0,1,2] [(0,.slice (some ⟨ga0,0,none⟩) len 24),(1,.int .u64 ((u1 / (100000000:UInt64)).toNat:Int)),(4,.int .i64 nd),(10,.int .u32 ((UInt32.ofInt (((UInt32.ofInt (Int.tdiv ((UInt32.ofInt (Int.tdiv ((UInt32.ofInt ((u1 % (100000000:UInt64)).toNat:Int)).toNat:Int) 10000)).toNat:Int) 100)).toNat:Int) * 2)).toNat:Int)),(81,.slice (some ⟨ga0,0,none⟩) len 24),(83,.int .i64 (IntKind.i64.wrap (nd - 7)))] ?_
   refine Sk hst [3,4,5] [0,1,2,3,4,5] [(0,.slice (some ⟨ga0,0,none⟩) len 24),(1,.int .u64 ((u1 / (100000000:UInt64)).toNat:Int)),(4,.int .i64 nd),(10,.int .u32 ((UInt32.ofInt (((UInt32.ofInt (Int.tdiv ((UInt32.ofInt (Int.tdiv ((UInt32.ofInt ((u1 % (100000000:UInt64)).toNat:Int)).toNat:Int) 10000)).toNat:Int) 100)).toNat:Int) * 2)).toNat:Int)),(81,.slice (some ⟨ga0,0,none⟩) len 24),(83,.int .i64 (IntKind.i64.wrap (nd - 7))),(84,.slice (some ⟨ga0,0,none⟩) len 24),(86,.int .i64 (IntKind.i64.wrap (nd - 8)))] ?_
   refine Sk hst [6,7] [0,1,2,3,4,5,6,7] [(0,.slice (some ⟨ga0,0,none⟩) len 24),(1,.int .u64 ((u1 / (100000000:UInt64)).toNat:Int)),(4,.int .i64 nd),(10,.int .u32 ((UInt32.ofInt (((UInt32.ofInt (Int.tdiv ((UInt32.ofInt (Int.tdiv ((UInt32.ofInt ((u1 % (100000000:UInt64)).toNat:Int)).toNat:Int) 10000)).toNat:Int) 100)).toNat:Int) * 2)).toNat:Int)),(81,.slice (some ⟨ga0,0,none⟩) len 24),(83,.int .i64 (IntKind.i64.wrap (nd - 7))),(84,.slice (some ⟨ga0,0,none⟩) len 24),(86,.int .i64 (IntKind.i64.wrap (nd - 8))),(88,.int .u32 (IntKind.u32.wrap (((UInt32.ofInt (((UInt32.ofInt (Int.tdiv ((UInt32.ofInt (Int.tdiv ((UInt32.ofInt ((u1 % (100000000:UInt64)).toNat:Int)).toNat:Int) 10000)).toNat:Int) 100)).toNat:Int) * 2)).toNat:Int)+1)))] ?_
   rw [q32_wrap (((UInt32.ofInt (((UInt32.ofInt (Int.tdiv ((UInt32.ofInt (Int.tdiv ((UInt32.ofInt ((u1 % (100000000:UInt64)).toNat:Int)).toNat:Int) 10000)).toNat:Int) 100)).toNat:Int) * 2)).toNat:Int)+1)]
   refine Sk hst [9] [0,1,2,3,4,5,6,7,9] [(0,.slice (some ⟨ga0,0,none⟩) len 24),(1,.int .u64 ((u1 / (100000000:UInt64)).toNat:Int)),(4,.int .i64 nd),(81,.slice (some ⟨ga0,0,none⟩) len 24),(83,.int .i64 (IntKind.i64.wrap (nd - 7))),(84,.slice (some ⟨ga0,0,none⟩) len 24),(86,.int .i64 (IntKind.i64.wrap (nd - 8))),(88,.int .u32 ((UInt32.ofInt (((UInt32.ofInt (((UInt32.ofInt (Int.tdiv ((UInt32.ofInt (Int.tdiv ((UInt32.ofInt ((u1 % (100000000:UInt64)).toNat:Int)).toNat:Int) 10000)).toNat:Int) 100)).toNat:Int) * 2)).toNat:Int)+1)).toNat:Int)),(90,.int .u32 ((UInt32.ofInt (((UInt32.ofInt (Int.tdiv ((UInt32.ofInt (Int.tdiv ((UInt32.ofInt ((u1 % (100000000:UInt64)).toNat:Int)).toNat:Int) 10000)).toNat:Int) 100)).toNat:Int) * 2)).toNat:Int))] ?_
   refine Tk (i:=8) (d:=(some 89)) (s:=vS (Instr.index 9 (.string ⟨([48,48,48,49,48,50,48,51,48,52,48,53,48,54,48,55,48,56,48,57,49,48,49,49,49,50,49,51,49,52,49,53,49,54,49,55,49,56,49,57,50,48,50,49,50,50,50,51,50,52,50,53,50,54,50,55,50,56,50,57,51,48,51,49,51,50,51,51,51,52,51,53,51,54,51,55,51,56,51,57,52,48,52,49,52,50,52,51,52,52,52,53,52,54,52,55,52,56,52,57,53,48,53,49,53,50,53,51,53,52,53,53,53,54,53,55,53,56,53,57,54,48,54,49,54,50,54,51,54,52,54,53,54,54,54,55,54,56,54,57,55,48,55,49,55,50,55,51,55,52,55,53,55,54,55,55,55,56,55,57,56,48,56,49,56,50,56,51,56,52,56,53,56,54,56,55,56,56,56,57,57,48,57,49,57,50,57,51,57,52,57,53,57,54,57,55,57,56,57,57]:List UInt8).toArray⟩) (.int .u32 ((UInt32.ofInt (((UInt32.ofInt (((UInt32.ofInt (Int.tdiv ((UInt32.ofInt (Int.tdiv ((UInt32.ofInt ((u1 % (100000000:UInt64)).toNat:Int)).toNat:Int) 10000)).toNat:Int) 100)).toNat:Int) * 2)).toNat:Int)+1)).toNat:Int)))) (v:=.int .u8 (c6.toNat:Int)) hst (fun w' hw' => str_idx_run _ _ _ _ _ (by kernel_rfl) h_c6) ?_
   refine Tk (i:=10) (d:=(some 91)) (s:=vS (Instr.index 9 (.string ⟨([48,48,48,49,48,50,48,51,48,52,48,53,48,54,48,55,48,56,48,57,49,48,49,49,49,50,49,51,49,52,49,53,49,54,49,55,49,56,49,57,50,48,50,49,50,50,50,51,50,52,50,53,50,54,50,55,50,56,50,57,51,48,51,49,51,50,51,51,51,52,51,53,51,54,51,55,51,56,51,57,52,48,52,49,52,50,52,51,52,52,52,53,52,54,52,55,52,56,52,57,53,48,53,49,53,50,53,51,53,52,53,53,53,54,53,55,53,56,53,57,54,48,54,49,54,50,54,51,54,52,54,53,54,54,54,55,54,56,54,57,55,48,55,49,55,50,55,51,55,52,55,53,55,54,55,55,55,56,55,57,56,48,56,49,56,50,56,51,56,52,56,53,56,54,56,55,56,56,56,57,57,48,57,49,57,50,57,51,57,52,57,53,57,54,57,55,57,56,57,57]:List UInt8).toArray⟩) (.int .u32 ((UInt32.ofInt (((UInt32.ofInt (Int.tdiv ((UInt32.ofInt (Int.tdiv ((UInt32.ofInt ((u1 % (100000000:UInt64)).toNat:Int)).toNat:Int) 10000)).toNat:Int) 100)).toNat:Int) * 2)).toNat:Int)))) (v:=.int .u8 (c7.toNat:Int)) hst (fun w' hw' => str_idx_run _ _ _ _ _ (by kernel_rfl) h_c7) ?_
   replace H:St w F m m [blkI ga0 (((((((a1.set ((IntKind.i64.wrap (nd - 1)).toNat) c).set ((IntKind.i64.wrap (nd - 2)).toNat) c1).set ((IntKind.i64.wrap (nd - 3)).toNat) c2).set ((IntKind.i64.wrap (nd - 4)).toNat) c3).set ((IntKind.i64.wrap (nd - 5)).toNat) c4).set ((IntKind.i64.wrap (nd - 6)).toNat) c5).map fU8) 86] w306:=H
   obtain ⟨i0307,i1307,ix307⟩:=idx_some h_x_6
   refine Sd (i:=11) H.has (idxSA (some 92) 25 5 ga0 len 24 .i64 (IntKind.i64.wrap (nd - 7)) (by kernel_rfl) (by kernel_rfl) i0307 (of_decide_eq_true hc300) ?_)
   refine Sd (i:=12) H.has (stAS fU8 none 5 0 ga0 ((IntKind.i64.wrap (nd - 7)).toNat) c6 ((((((a1.set ((IntKind.i64.wrap (nd - 1)).toNat) c).set ((IntKind.i64.wrap (nd - 2)).toNat) c1).set ((IntKind.i64.wrap (nd - 3)).toNat) c2).set ((IntKind.i64.wrap (nd - 4)).toNat) c3).set ((IntKind.i64.wrap (nd - 5)).toNat) c4).set ((IntKind.i64.wrap (nd - 6)).toNat) c5) 86 H rfl (by kernel_rfl) (by kernel_rfl) rfl (List.getElem?_eq_some_iff.1 ix307).1 ?_)
   intro w308 H
   obtain ⟨i0309,i1309,ix309⟩:=idx_some h_x_7
   refine Sd (i:=13) H.has (idxSA (some 93) 25 5 ga0 len 24 .i64 (IntKind.i64.wrap (nd - 8)) (by kernel_rfl) (by kernel_rfl) i0309 (of_decide_eq_true hc303) ?_)
   refine Sd (i:=14) H.has (stAS fU8 none 5 0 ga0 ((IntKind.i64.wrap (nd - 8)).toNat) c7 (((((((a1.set ((IntKind.i64.wrap (nd - 1)).toNat) c).set ((IntKind.i64.wrap (nd - 2)).toNat) c1).set ((IntKind.i64.wrap (nd - 3)).toNat) c2).set ((IntKind.i64.wrap (nd - 4)).toNat) c3).set ((IntKind.i64.wrap (nd - 5)).toNat) c4).set ((IntKind.i64.wrap (nd - 6)).toNat) c5).set ((IntKind.i64.wrap (nd - 7)).toNat) c6) 86 H rfl (by kernel_rfl) (by kernel_rfl) rfl (List.getElem?_eq_some_iff.1 ix309).1 ?_)
   intro w310 H
   refine Ed H.has ?_
   refine Sg 6 [.le 1,.bl 0,.le 0,.co [1,1]] [(0,.slice (some ⟨ga0,0,none⟩) len 24),(1,.int .u64 ((u1 / (100000000:UInt64)).toNat:Int)),(4,.int .i64 (IntKind.i64.wrap (nd - 8)))] ?_
   refine Lq (nk264,((((((((a1.set ((IntKind.i64.wrap (nd - 1)).toNat) c).set ((IntKind.i64.wrap (nd - 2)).toNat) c1).set ((IntKind.i64.wrap (nd - 3)).toNat) c2).set ((IntKind.i64.wrap (nd - 4)).toNat) c3).set ((IntKind.i64.wrap (nd - 5)).toNat) c4).set ((IntKind.i64.wrap (nd - 6)).toNat) c5).set ((IntKind.i64.wrap (nd - 7)).toNat) c6).set ((IntKind.i64.wrap (nd - 8)).toNat) c7),(u1 / (100000000:UInt64)),(IntKind.i64.wrap (nd - 8))) (Nat.lt_succ_self _) ⟨hnx264 _ (Option.some.inj hb_264).symm,H⟩
  ·rw [hb266]
   have p266:=of_decide_eq_false hb266
   refine Sg 2 [.le 0,.co [1,1]] [(0,.slice (some ⟨ga0,0,none⟩) len 24),(1,.int .u64 (u1.toNat:Int)),(4,.int .i64 nd)] ?_
   refine leR_up (k':=[]) (by rfl) ?_
   refine Lj (a1,u1,nd) ⟨(hfin264 _ (Option.some.inj hb_264).symm).symm,H⟩
 rintro ⟨a1,u1,nd⟩ wj210 ⟨hy210,H⟩
 try dsimp only at hy210
 try dsimp only at H
 rw [hy210] at hf
 try dsimp only at hf
 refine Sg 12 [.co [1,1,1,0,1],.co [1,1,1,1]] [(0,.slice (some ⟨ga0,0,none⟩) len 24),(4,.int .i64 nd),(12,.int .u32 (IntKind.u32.wrap (u1.toNat:Int))),(99,.bool (decide (nd ≥ 4)))] ?_
 rw [q32_wrap (u1.toNat:Int)]
 rcases condT hf with ⟨hb354,hf⟩ | ⟨hb354,hf⟩
 ·rw [hb354]
  have p354:=of_decide_eq_true hb354
  refine Sg 25 [.co [1,1,1,0,1,0,1,1,1,0],.co [1,1,1,0,1,0,1,1,1,1],.co [1,1,1,1]] [(0,.slice (some ⟨ga0,0,none⟩) len 24),(4,.int .i64 nd),(12,.int .u32 (IntKind.u32.wrap (Int.tdiv ((UInt32.ofInt (u1.toNat:Int)).toNat:Int) 10000))),(14,.int .u32 (IntKind.u32.wrap ((IntKind.u32.wrap (Int.tdiv (Int.tmod ((UInt32.ofInt (u1.toNat:Int)).toNat:Int) 10000) 100)) * 2))),(15,.int .u32 (IntKind.u32.wrap ((Int.tmod (Int.tmod ((UInt32.ofInt (u1.toNat:Int)).toNat:Int) 10000) 100) * 2)))] ?_
  rw [q32_wrap (Int.tdiv ((UInt32.ofInt (u1.toNat:Int)).toNat:Int) 10000)]
  rw [q32_wrap (Int.tdiv (Int.tmod ((UInt32.ofInt (u1.toNat:Int)).toNat:Int) 10000) 100)]
  rw [q32_wrap (((UInt32.ofInt (Int.tdiv (Int.tmod ((UInt32.ofInt (u1.toNat:Int)).toNat:Int) 10000) 100)).toNat:Int) * 2)]
  rw [q32_wrap ((Int.tmod (Int.tmod ((UInt32.ofInt (u1.toNat:Int)).toNat:Int) 10000) 100) * 2)]
  obtain ⟨c8,h_c8,hf⟩:=bindE hf
  obtain ⟨c9,h_c9,hf⟩:=bindE hf
  obtain ⟨x_8,h_x_8,hf⟩:=bindE hf
  obtain ⟨hc355,hf⟩:=chkE hf
  obtain ⟨i0356,i1356,ix356⟩:=idx_some h_x_8
  obtain ⟨x_9,h_x_9,hf⟩:=bindE hf
  obtain ⟨hc358,hf⟩:=chkE hf
  obtain ⟨i0359,i1359,ix359⟩:=idx_some h_x_9
  have hst:statB (bodyOf Tryd.f55) [1,1,1,0,1,0,1,1,1,0]=true:=by kernel_rfl
  refine Dw (Has m) H ?_
  intro w361 H
  refine Sk hst [0,1,2] [0,1,2] [(0,.slice (some ⟨ga0,0,none⟩) len 24),(4,.int .i64 nd),(12,.int .u32 ((UInt32.ofInt (Int.tdiv ((UInt32.ofInt (u1.toNat:Int)).toNat:Int) 10000)).toNat:Int)),(14,.int .u32 ((UInt32.ofInt (((UInt32.ofInt (Int.tdiv (Int.tmod ((UInt32.ofInt (u1.toNat:Int)).toNat:Int) 10000) 100)).toNat:Int) * 2)).toNat:Int)),(15,.int .u32 ((UInt32.ofInt ((Int.tmod (Int.tmod ((UInt32.ofInt (u1.toNat:Int)).toNat:Int) 10000) 100) * 2)).toNat:Int)),(110,.slice (some ⟨ga0,0,none⟩) len 24),(112,.int .i64 (IntKind.i64.wrap (nd - 1)))] ?_
  refine Sk hst [3,4,5] [0,1,2,3,4,5] [(0,.slice (some ⟨ga0,0,none⟩) len 24),(4,.int .i64 nd),(12,.int .u32 ((UInt32.ofInt (Int.tdiv ((UInt32.ofInt (u1.toNat:Int)).toNat:Int) 10000)).toNat:Int)),(14,.int .u32 ((UInt32.ofInt (((UInt32.ofInt (Int.tdiv (Int.tmod ((UInt32.ofInt (u1.toNat:Int)).toNat:Int) 10000) 100)).toNat:Int) * 2)).toNat:Int)),(15,.int .u32 ((UInt32.ofInt ((Int.tmod (Int.tmod ((UInt32.ofInt (u1.toNat:Int)).toNat:Int) 10000) 100) * 2)).toNat:Int)),(110,.slice (some ⟨ga0,0,none⟩) len 24),(112,.int .i64 (IntKind.i64.wrap (nd - 1))),(113,.slice (some ⟨ga0,0,none⟩) len 24),(115,.int .i64 (IntKind.i64.wrap (nd - 2)))] ?_
  refine Sk hst [6,7] [0,1,2,3,4,5,6,7] [(0,.slice (some ⟨ga0,0,none⟩) len 24),(4,.int .i64 nd),(12,.int .u32 ((UInt32.ofInt (Int.tdiv ((UInt32.ofInt (u1.toNat:Int)).toNat:Int) 10000)).toNat:Int)),(14,.int .u32 ((UInt32.ofInt (((UInt32.ofInt (Int.tdiv (Int.tmod ((UInt32.ofInt (u1.toNat:Int)).toNat:Int) 10000) 100)).toNat:Int) * 2)).toNat:Int)),(15,.int .u32 ((UInt32.ofInt ((Int.tmod (Int.tmod ((UInt32.ofInt (u1.toNat:Int)).toNat:Int) 10000) 100) * 2)).toNat:Int)),(110,.slice (some ⟨ga0,0,none⟩) len 24),(112,.int .i64 (IntKind.i64.wrap (nd - 1))),(113,.slice (some ⟨ga0,0,none⟩) len 24),(115,.int .i64 (IntKind.i64.wrap (nd - 2))),(117,.int .u32 (IntKind.u32.wrap (((UInt32.ofInt ((Int.tmod (Int.tmod ((UInt32.ofInt (u1.toNat:Int)).toNat:Int) 10000) 100) * 2)).toNat:Int)+1)))] ?_
  rw [q32_wrap (((UInt32.ofInt ((Int.tmod (Int.tmod ((UInt32.ofInt (u1.toNat:Int)).toNat:Int) 10000) 100) * 2)).toNat:Int)+1)]
  refine Sk hst [9] [0,1,2,3,4,5,6,7,9] [(0,.slice (some ⟨ga0,0,none⟩) len 24),(4,.int .i64 nd),(12,.int .u32 ((UInt32.ofInt (Int.tdiv ((UInt32.ofInt (u1.toNat:Int)).toNat:Int) 10000)).toNat:Int)),(14,.int .u32 ((UInt32.ofInt (((UInt32.ofInt (Int.tdiv (Int.tmod ((UInt32.ofInt (u1.toNat:Int)).toNat:Int) 10000) 100)).toNat:Int) * 2)).toNat:Int)),(110,.slice (some ⟨ga0,0,none⟩) len 24),(112,.int .i64 (IntKind.i64.wrap (nd - 1))),(113,.slice (some ⟨ga0,0,none⟩) len 24),(115,.int .i64 (IntKind.i64.wrap (nd - 2))),(117,.int .u32 ((UInt32.ofInt (((UInt32.ofInt ((Int.tmod (Int.tmod ((UInt32.ofInt (u1.toNat:Int)).toNat:Int) 10000) 100) * 2)).toNat:Int)+1)).toNat:Int)),(119,.int .u32 ((UInt32.ofInt ((Int.tmod (Int.tmod ((UInt32.ofInt (u1.toNat:Int)).toNat:Int) 10000) 100) * 2)).toNat:Int))] ?_
  refine Tk (i:=8) (d:=(some 118)) (s:=vS (Instr.index 9 (.string ⟨([48,48,48,49,48,50,48,51,48,52,48,53,48,54,48,55,48,56,48,57,49,48,49,49,49,50,49,51,49,52,49,53,49,54,49,55,49,56,49,57,50,48,50,49,50,50,50,51,50,52,50,53,50,54,50,55,50,56,50,57,51,48,51,49,51,50,51,51,51,52,51,53,51,54,51,55,51,56,51,57,52,48,52,49,52,50,52,51,52,52,52,53,52,54,52,55,52,56,52,57,53,48,53,49,53,50,53,51,53,52,53,53,53,54,53,55,53,56,53,57,54,48,54,49,54,50,54,51,54,52,54,53,54,54,54,55,54,56,54,57,55,48,55,49,55,50,55,51,55,52,55,53,55,54,55,55,55,56,55,57,56,48,56,49,56,50,56,51,56,52,56,53,56,54,56,55,56,56,56,57,57,48,57,49,57,50,57,51,57,52,57,53,57,54,57,55,57,56,57,57]:List UInt8).toArray⟩) (.int .u32 ((UInt32.ofInt (((UInt32.ofInt ((Int.tmod (Int.tmod ((UInt32.ofInt (u1.toNat:Int)).toNat:Int) 10000) 100) * 2)).toNat:Int)+1)).toNat:Int)))) (v:=.int .u8 (c8.toNat:Int)) hst (fun w' hw' => str_idx_run _ _ _ _ _ (by kernel_rfl) h_c8) ?_
  refine Tk (i:=10) (d:=(some 120)) (s:=vS (Instr.index 9 (.string ⟨([48,48,48,49,48,50,48,51,48,52,48,53,48,54,48,55,48,56,48,57,49,48,49,49,49,50,49,51,49,52,49,53,49,54,49,55,49,56,49,57,50,48,50,49,50,50,50,51,50,52,50,53,50,54,50,55,50,56,50,57,51,48,51,49,51,50,51,51,51,52,51,53,51,54,51,55,51,56,51,57,52,48,52,49,52,50,52,51,52,52,52,53,52,54,52,55,52,56,52,57,53,48,53,49,53,50,53,51,53,52,53,53,53,54,53,55,53,56,53,57,54,48,54,49,54,50,54,51,54,52,54,53,54,54,54,55,54,56,54,57,55,48,55,49,55,50,55,51,55,52,55,53,55,54,55,55,55,56,55,57,56,48,56,49,56,50,56,51,56,52,56,53,56,54,56,55,56,56,56,57,57,48,57,49,57,50,57,51,57,52,57,53,57,54,57,55,57,56,57,57]:List UInt8).toArray⟩) (.int .u32 ((UInt32.ofInt ((Int.tmod (Int.tmod ((UInt32.ofInt (u1.toNat:Int)).toNat:Int) 10000) 100) * 2)).toNat:Int)))) (v:=.int .u8 (c9.toNat:Int)) hst (fun w' hw' => str_idx_run _ _ _ _ _ (by kernel_rfl) h_c9) ?_
  replace H:St w F m m [blkI ga0 (a1.map fU8) 86] w361:=H
  obtain ⟨i0362,i1362,ix362⟩:=idx_some h_x_8
  refine Sd (i:=11) H.has (idxSA (some 121) 25 5 ga0 len 24 .i64 (IntKind.i64.wrap (nd - 1)) (by kernel_rfl) (by kernel_rfl) i0362 (of_decide_eq_true hc355) ?_)
  refine Sd (i:=12) H.has (stAS fU8 none 5 0 ga0 ((IntKind.i64.wrap (nd - 1)).toNat) c8 a1 86 H rfl (by kernel_rfl) (by kernel_rfl) rfl (List.getElem?_eq_some_iff.1 ix362).1 ?_)
  intro w363 H
  obtain ⟨i0364,i1364,ix364⟩:=idx_some h_x_9
  refine Sd (i:=13) H.has (idxSA (some 122) 25 5 ga0 len 24 .i64 (IntKind.i64.wrap (nd - 2)) (by kernel_rfl) (by kernel_rfl) i0364 (of_decide_eq_true hc358) ?_)
  refine Sd (i:=14) H.has (stAS fU8 none 5 0 ga0 ((IntKind.i64.wrap (nd - 2)).toNat) c9 (a1.set ((IntKind.i64.wrap (nd - 1)).toNat) c8) 86 H rfl (by kernel_rfl) (by kernel_rfl) rfl (List.getElem?_eq_some_iff.1 ix364).1 ?_)
  intro w365 H
  refine Ed H.has ?_
  refine Sg 1 [.co [1,1,1,0,1,0,1,1,1,1,0],.co [1,1,1,0,1,0,1,1,1,1,1],.co [1,1,1,1]] [(0,.slice (some ⟨ga0,0,none⟩) len 24),(4,.int .i64 nd),(12,.int .u32 ((UInt32.ofInt (Int.tdiv ((UInt32.ofInt (u1.toNat:Int)).toNat:Int) 10000)).toNat:Int)),(14,.int .u32 ((UInt32.ofInt (((UInt32.ofInt (Int.tdiv (Int.tmod ((UInt32.ofInt (u1.toNat:Int)).toNat:Int) 10000) 100)).toNat:Int) * 2)).toNat:Int))] ?_
  obtain ⟨c10,h_c10,hf⟩:=bindE hf
  obtain ⟨c11,h_c11,hf⟩:=bindE hf
  obtain ⟨x_10,h_x_10,hf⟩:=bindE hf
  obtain ⟨hc366,hf⟩:=chkE hf
  obtain ⟨i0367,i1367,ix367⟩:=idx_some h_x_10
  obtain ⟨x_11,h_x_11,hf⟩:=bindE hf
  obtain ⟨hc369,hf⟩:=chkE hf
  obtain ⟨i0370,i1370,ix370⟩:=idx_some h_x_11
  have hst:statB (bodyOf Tryd.f55) [1,1,1,0,1,0,1,1,1,1,0]=true:=by kernel_rfl
  refine Dw (Has m) H ?_
  intro w372 H
  refine Sk hst [0,1,2] [0,1,2] [(0,.slice (some ⟨ga0,0,none⟩) len 24),(4,.int .i64 nd),(12,.int .u32 ((UInt32.ofInt (Int.tdiv ((UInt32.ofInt (u1.toNat:Int)).toNat:Int) 10000)).toNat:Int)),(14,.int .u32 ((UInt32.ofInt (((UInt32.ofInt (Int.tdiv (Int.tmod ((UInt32.ofInt (u1.toNat:Int)).toNat:Int) 10000) 100)).toNat:Int) * 2)).toNat:Int)),(123,.slice (some ⟨ga0,0,none⟩) len 24),(125,.int .i64 (IntKind.i64.wrap (nd - 3)))] ?_
  refine Sk hst [3,4,5] [0,1,2,3,4,5] [(0,.slice (some ⟨ga0,0,none⟩) len 24),(4,.int .i64 nd),(12,.int .u32 ((UInt32.ofInt (Int.tdiv ((UInt32.ofInt (u1.toNat:Int)).toNat:Int) 10000)).toNat:Int)),(14,.int .u32 ((UInt32.ofInt (((UInt32.ofInt (Int.tdiv (Int.tmod ((UInt32.ofInt (u1.toNat:Int)).toNat:Int) 10000) 100)).toNat:Int) * 2)).toNat:Int)),(123,.slice (some ⟨ga0,0,none⟩) len 24),(125,.int .i64 (IntKind.i64.wrap (nd - 3))),(126,.slice (some ⟨ga0,0,none⟩) len 24),(128,.int .i64 (IntKind.i64.wrap (nd - 4)))] ?_
  refine Sk hst [6,7] [0,1,2,3,4,5,6,7] [(0,.slice (some ⟨ga0,0,none⟩) len 24),(4,.int .i64 nd),(12,.int .u32 ((UInt32.ofInt (Int.tdiv ((UInt32.ofInt (u1.toNat:Int)).toNat:Int) 10000)).toNat:Int)),(14,.int .u32 ((UInt32.ofInt (((UInt32.ofInt (Int.tdiv (Int.tmod ((UInt32.ofInt (u1.toNat:Int)).toNat:Int) 10000) 100)).toNat:Int) * 2)).toNat:Int)),(123,.slice (some ⟨ga0,0,none⟩) len 24),(125,.int .i64 (IntKind.i64.wrap (nd - 3))),(126,.slice (some ⟨ga0,0,none⟩) len 24),(128,.int .i64 (IntKind.i64.wrap (nd - 4))),(130,.int .u32 (IntKind.u32.wrap (((UInt32.ofInt (((UInt32.ofInt (Int.tdiv (Int.tmod ((UInt32.ofInt (u1.toNat:Int)).toNat:Int) 10000) 100)).toNat:Int) * 2)).toNat:Int)+1)))] ?_
  rw [q32_wrap (((UInt32.ofInt (((UInt32.ofInt (Int.tdiv (Int.tmod ((UInt32.ofInt (u1.toNat:Int)).toNat:Int) 10000) 100)).toNat:Int) * 2)).toNat:Int)+1)]
  refine Sk hst [9] [0,1,2,3,4,5,6,7,9] [(0,.slice (some ⟨ga0,0,none⟩) len 24),(4,.int .i64 nd),(12,.int .u32 ((UInt32.ofInt (Int.tdiv ((UInt32.ofInt (u1.toNat:Int)).toNat:Int) 10000)).toNat:Int)),(123,.slice (some ⟨ga0,0,none⟩) len 24),(125,.int .i64 (IntKind.i64.wrap (nd - 3))),(126,.slice (some ⟨ga0,0,none⟩) len 24),(128,.int .i64 (IntKind.i64.wrap (nd - 4))),(130,.int .u32 ((UInt32.ofInt (((UInt32.ofInt (((UInt32.ofInt (Int.tdiv (Int.tmod ((UInt32.ofInt (u1.toNat:Int)).toNat:Int) 10000) 100)).toNat:Int) * 2)).toNat:Int)+1)).toNat:Int)),(132,.int .u32 ((UInt32.ofInt (((UInt32.ofInt (Int.tdiv (Int.tmod ((UInt32.ofInt (u1.toNat:Int)).toNat:Int) 10000) 100)).toNat:Int) * 2)).toNat:Int))] ?_
  refine Tk (i:=8) (d:=(some 131)) (s:=vS (Instr.index 9 (.string ⟨([48,48,48,49,48,50,48,51,48,52,48,53,48,54,48,55,48,56,48,57,49,48,49,49,49,50,49,51,49,52,49,53,49,54,49,55,49,56,49,57,50,48,50,49,50,50,50,51,50,52,50,53,50,54,50,55,50,56,50,57,51,48,51,49,51,50,51,51,51,52,51,53,51,54,51,55,51,56,51,57,52,48,52,49,52,50,52,51,52,52,52,53,52,54,52,55,52,56,52,57,53,48,53,49,53,50,53,51,53,52,53,53,53,54,53,55,53,56,53,57,54,48,54,49,54,50,54,51,54,52,54,53,54,54,54,55,54,56,54,57,55,48,55,49,55,50,55,51,55,52,55,53,55,54,55,55,55,56,55,57,56,48,56,49,56,50,56,51,56,52,56,53,56,54,56,55,56,56,56,57,57,48,57,49,57,50,57,51,57,52,57,53,57,54,57,55,57,56,57,57]:List UInt8).toArray⟩) (.int .u32 ((UInt32.ofInt (((UInt32.ofInt (((UInt32.ofInt (Int.tdiv (Int.tmod ((UInt32.ofInt (u1.toNat:Int)).toNat:Int) 10000) 100)).toNat:Int) * 2)).toNat:Int)+1)).toNat:Int)))) (v:=.int .u8 (c10.toNat:Int)) hst (fun w' hw' => str_idx_run _ _ _ _ _ (by kernel_rfl) h_c10) ?_
  refine Tk (i:=10) (d:=(some 133)) (s:=vS (Instr.index 9 (.string ⟨([48,48,48,49,48,50,48,51,48,52,48,53,48,54,48,55,48,56,48,57,49,48,49,49,49,50,49,51,49,52,49,53,49,54,49,55,49,56,49,57,50,48,50,49,50,50,50,51,50,52,50,53,50,54,50,55,50,56,50,57,51,48,51,49,51,50,51,51,51,52,51,53,51,54,51,55,51,56,51,57,52,48,52,49,52,50,52,51,52,52,52,53,52,54,52,55,52,56,52,57,53,48,53,49,53,50,53,51,53,52,53,53,53,54,53,55,53,56,53,57,54,48,54,49,54,50,54,51,54,52,54,53,54,54,54,55,54,56,54,57,55,48,55,49,55,50,55,51,55,52,55,53,55,54,55,55,55,56,55,57,56,48,56,49,56,50,56,51,56,52,56,53,56,54,56,55,56,56,56,57,57,48,57,49,57,50,57,51,57,52,57,53,57,54,57,55,57,56,57,57]:List UInt8).toArray⟩) (.int .u32 ((UInt32.ofInt (((UInt32.ofInt (Int.tdiv (Int.tmod ((UInt32.ofInt (u1.toNat:Int)).toNat:Int) 10000) 100)).toNat:Int) * 2)).toNat:Int)))) (v:=.int .u8 (c11.toNat:Int)) hst (fun w' hw' => str_idx_run _ _ _ _ _ (by kernel_rfl) h_c11) ?_
  replace H:St w F m m [blkI ga0 (((a1.set ((IntKind.i64.wrap (nd - 1)).toNat) c8).set ((IntKind.i64.wrap (nd - 2)).toNat) c9).map fU8) 86] w372:=H
  obtain ⟨i0373,i1373,ix373⟩:=idx_some h_x_10
  refine Sd (i:=11) H.has (idxSA (some 134) 25 5 ga0 len 24 .i64 (IntKind.i64.wrap (nd - 3)) (by kernel_rfl) (by kernel_rfl) i0373 (of_decide_eq_true hc366) ?_)
  refine Sd (i:=12) H.has (stAS fU8 none 5 0 ga0 ((IntKind.i64.wrap (nd - 3)).toNat) c10 ((a1.set ((IntKind.i64.wrap (nd - 1)).toNat) c8).set ((IntKind.i64.wrap (nd - 2)).toNat) c9) 86 H rfl (by kernel_rfl) (by kernel_rfl) rfl (List.getElem?_eq_some_iff.1 ix373).1 ?_)
  intro w374 H
  obtain ⟨i0375,i1375,ix375⟩:=idx_some h_x_11
  refine Sd (i:=13) H.has (idxSA (some 135) 25 5 ga0 len 24 .i64 (IntKind.i64.wrap (nd - 4)) (by kernel_rfl) (by kernel_rfl) i0375 (of_decide_eq_true hc369) ?_)
  refine Sd (i:=14) H.has (stAS fU8 none 5 0 ga0 ((IntKind.i64.wrap (nd - 4)).toNat) c11 (((a1.set ((IntKind.i64.wrap (nd - 1)).toNat) c8).set ((IntKind.i64.wrap (nd - 2)).toNat) c9).set ((IntKind.i64.wrap (nd - 3)).toNat) c10) 86 H rfl (by kernel_rfl) (by kernel_rfl) rfl (List.getElem?_eq_some_iff.1 ix375).1 ?_)
  intro w376 H
  refine Ed H.has ?_
  refine Sg 11 [.co [1,1,1,1,0,1],.co [1,1,1,1,1]] [(0,.slice (some ⟨ga0,0,none⟩) len 24),(4,.int .i64 (IntKind.i64.wrap (nd - 4))),(12,.int .u32 ((UInt32.ofInt (Int.tdiv ((UInt32.ofInt (u1.toNat:Int)).toNat:Int) 10000)).toNat:Int)),(139,.bool (decide ((IntKind.i64.wrap (nd - 4)) ≥ 2)))] ?_
  rcases condT hf with ⟨hb377,hf⟩ | ⟨hb377,hf⟩
  ·rw [hb377]
   have p377:=of_decide_eq_true hb377
   refine Sg 15 [.co [1,1,1,1,0,1,0,1,1,0],.co [1,1,1,1,0,1,0,1,1,1],.co [1,1,1,1,1]] [(0,.slice (some ⟨ga0,0,none⟩) len 24),(4,.int .i64 (IntKind.i64.wrap (nd - 4))),(12,.int .u32 (IntKind.u32.wrap (Int.tdiv ((UInt32.ofInt (Int.tdiv ((UInt32.ofInt (u1.toNat:Int)).toNat:Int) 10000)).toNat:Int) 100))),(16,.int .u32 (IntKind.u32.wrap ((Int.tmod ((UInt32.ofInt (Int.tdiv ((UInt32.ofInt (u1.toNat:Int)).toNat:Int) 10000)).toNat:Int) 100) * 2)))] ?_
   rw [q32_wrap (Int.tdiv ((UInt32.ofInt (Int.tdiv ((UInt32.ofInt (u1.toNat:Int)).toNat:Int) 10000)).toNat:Int) 100)]
   rw [q32_wrap ((Int.tmod ((UInt32.ofInt (Int.tdiv ((UInt32.ofInt (u1.toNat:Int)).toNat:Int) 10000)).toNat:Int) 100) * 2)]
   obtain ⟨c12,h_c12,hf⟩:=bindE hf
   obtain ⟨c13,h_c13,hf⟩:=bindE hf
   obtain ⟨x_12,h_x_12,hf⟩:=bindE hf
   obtain ⟨hc378,hf⟩:=chkE hf
   obtain ⟨i0379,i1379,ix379⟩:=idx_some h_x_12
   obtain ⟨x_13,h_x_13,hf⟩:=bindE hf
   obtain ⟨hc381,hf⟩:=chkE hf
   obtain ⟨i0382,i1382,ix382⟩:=idx_some h_x_13
   have hst:statB (bodyOf Tryd.f55) [1,1,1,1,0,1,0,1,1,0]=true:=by kernel_rfl
   refine Dw (Has m) H ?_
   intro w384 H
   refine Sk hst [0,1,2] [0,1,2] [(0,.slice (some ⟨ga0,0,none⟩) len 24),(4,.int .i64 (IntKind.i64.wrap (nd - 4))),(12,.int .u32 ((UInt32.ofInt (Int.tdiv ((UInt32.ofInt (Int.tdiv ((UInt32.ofInt (u1.toNat:Int)).toNat:Int) 10000)).toNat:Int) 100)).toNat:Int)),(16,.int .u32 ((UInt32.ofInt ((Int.tmod ((UInt32.ofInt (Int.tdiv ((UInt32.ofInt (u1.toNat:Int)).toNat:Int) 10000)).toNat:Int) 100) * 2)).toNat:Int)),(145,.slice (some ⟨ga0,0,none⟩) len 24),(147,.int .i64 (IntKind.i64.wrap ((IntKind.i64.wrap (nd - 4)) - 1)))] ?_
   refine Sk hst [3,4,5] [0,1,2,3,4,5] [(0,.slice (some ⟨ga0,0,none⟩) len 24),(4,.int .i64 (IntKind.i64.wrap (nd - 4))),(12,.int .u32 ((UInt32.ofInt (Int.tdiv ((UInt32.ofInt (Int.tdiv ((UInt32.ofInt (u1.toNat:Int)).toNat:Int) 10000)).toNat:Int) 100)).toNat:Int)),(16,.int .u32 ((UInt32.ofInt ((Int.tmod ((UInt32.ofInt (Int.tdiv ((UInt32.ofInt (u1.toNat:Int)).toNat:Int) 10000)).toNat:Int) 100) * 2)).toNat:Int)),(145,.slice (some ⟨ga0,0,none⟩) len 24),(147,.int .i64 (IntKind.i64.wrap ((IntKind.i64.wrap (nd - 4)) - 1))),(148,.slice (some ⟨ga0,0,none⟩) len 24),(150,.int .i64 (IntKind.i64.wrap ((IntKind.i64.wrap (nd - 4)) - 2)))] ?_
   refine Sk hst [6,7] [0,1,2,3,4,5,6,7] [(0,.slice (some ⟨ga0,0,none⟩) len 24),(4,.int .i64 (IntKind.i64.wrap (nd - 4))),(12,.int .u32 ((UInt32.ofInt (Int.tdiv ((UInt32.ofInt (Int.tdiv ((UInt32.ofInt (u1.toNat:Int)).toNat:Int) 10000)).toNat:Int) 100)).toNat:Int)),(16,.int .u32 ((UInt32.ofInt ((Int.tmod ((UInt32.ofInt (Int.tdiv ((UInt32.ofInt (u1.toNat:Int)).toNat:Int) 10000)).toNat:Int) 100) * 2)).toNat:Int)),(145,.slice (some ⟨ga0,0,none⟩) len 24),(147,.int .i64 (IntKind.i64.wrap ((IntKind.i64.wrap (nd - 4)) - 1))),(148,.slice (some ⟨ga0,0,none⟩) len 24),(150,.int .i64 (IntKind.i64.wrap ((IntKind.i64.wrap (nd - 4)) - 2))),(152,.int .u32 (IntKind.u32.wrap (((UInt32.ofInt ((Int.tmod ((UInt32.ofInt (Int.tdiv ((UInt32.ofInt (u1.toNat:Int)).toNat:Int) 10000)).toNat:Int) 100) * 2)).toNat:Int)+1)))] ?_
   rw [q32_wrap (((UInt32.ofInt ((Int.tmod ((UInt32.ofInt (Int.tdiv ((UInt32.ofInt (u1.toNat:Int)).toNat:Int) 10000)).toNat:Int) 100) * 2)).toNat:Int)+1)]
   refine Sk hst [9] [0,1,2,3,4,5,6,7,9] [(0,.slice (some ⟨ga0,0,none⟩) len 24),(4,.int .i64 (IntKind.i64.wrap (nd - 4))),(12,.int .u32 ((UInt32.ofInt (Int.tdiv ((UInt32.ofInt (Int.tdiv ((UInt32.ofInt (u1.toNat:Int)).toNat:Int) 10000)).toNat:Int) 100)).toNat:Int)),(145,.slice (some ⟨ga0,0,none⟩) len 24),(147,.int .i64 (IntKind.i64.wrap ((IntKind.i64.wrap (nd - 4)) - 1))),(148,.slice (some ⟨ga0,0,none⟩) len 24),(150,.int .i64 (IntKind.i64.wrap ((IntKind.i64.wrap (nd - 4)) - 2))),(152,.int .u32 ((UInt32.ofInt (((UInt32.ofInt ((Int.tmod ((UInt32.ofInt (Int.tdiv ((UInt32.ofInt (u1.toNat:Int)).toNat:Int) 10000)).toNat:Int) 100) * 2)).toNat:Int)+1)).toNat:Int)),(154,.int .u32 ((UInt32.ofInt ((Int.tmod ((UInt32.ofInt (Int.tdiv ((UInt32.ofInt (u1.toNat:Int)).toNat:Int) 10000)).toNat:Int) 100) * 2)).toNat:Int))] ?_
   refine Tk (i:=8) (d:=(some 153)) (s:=vS (Instr.index 9 (.string ⟨([48,48,48,49,48,50,48,51,48,52,48,53,48,54,48,55,48,56,48,57,49,48,49,49,49,50,49,51,49,52,49,53,49,54,49,55,49,56,49,57,50,48,50,49,50,50,50,51,50,52,50,53,50,54,50,55,50,56,50,57,51,48,51,49,51,50,51,51,51,52,51,53,51,54,51,55,51,56,51,57,52,48,52,49,52,50,52,51,52,52,52,53,52,54,52,55,52,56,52,57,53,48,53,49,53,50,53,51,53,52,53,53,53,54,53,55,53,56,53,57,54,48,54,49,54,50,54,51,54,52,54,53,54,54,54,55,54,56,54,57,55,48,55,49,55,50,55,51,55,52,55,53,55,54,55,55,55,56,55,57,56,48,56,49,56,50,56,51,56,52,56,53,56,54,56,55,56,56,56,57,57,48,57,49,57,50,57,51,57,52,57,53,57,54,57,55,57,56,57,57]:List UInt8).toArray⟩) (.int .u32 ((UInt32.ofInt (((UInt32.ofInt ((Int.tmod ((UInt32.ofInt (Int.tdiv ((UInt32.ofInt (u1.toNat:Int)).toNat:Int) 10000)).toNat:Int) 100) * 2)).toNat:Int)+1)).toNat:Int)))) (v:=.int .u8 (c12.toNat:Int)) hst (fun w' hw' => str_idx_run _ _ _ _ _ (by kernel_rfl) h_c12) ?_
   refine Tk (i:=10) (d:=(some 155)) (s:=vS (Instr.index 9 (.string ⟨([48,48,48,49,48,50,48,51,48,52,48,53,48,54,48,55,48,56,48,57,49,48,49,49,49,50,49,51,49,52,49,53,49,54,49,55,49,56,49,57,50,48,50,49,50,50,50,51,50,52,50,53,50,54,50,55,50,56,50,57,51,48,51,49,51,50,51,51,51,52,51,53,51,54,51,55,51,56,51,57,52,48,52,49,52,50,52,51,52,52,52,53,52,54,52,55,52,56,52,57,53,48,53,49,53,50,53,51,53,52,53,53,53,54,53,55,53,56,53,57,54,48,54,49,54,50,54,51,54,52,54,53,54,54,54,55,54,56,54,57,55,48,55,49,55,50,55,51,55,52,55,53,55,54,55,55,55,56,55,57,56,48,56,49,56,50,56,51,56,52,56,53,56,54,56,55,56,56,56,57,57,48,57,49,57,50,57,51,57,52,57,53,57,54,57,55,57,56,57,57]:List UInt8).toArray⟩) (.int .u32 ((UInt32.ofInt ((Int.tmod ((UInt32.ofInt (Int.tdiv ((UInt32.ofInt (u1.toNat:Int)).toNat:Int) 10000)).toNat:Int) 100) * 2)).toNat:Int)))) (v:=.int .u8 (c13.toNat:Int)) hst (fun w' hw' => str_idx_run _ _ _ _ _ (by kernel_rfl) h_c13) ?_
   replace H:St w F m m [blkI ga0 (((((a1.set ((IntKind.i64.wrap (nd - 1)).toNat) c8).set ((IntKind.i64.wrap (nd - 2)).toNat) c9).set ((IntKind.i64.wrap (nd - 3)).toNat) c10).set ((IntKind.i64.wrap (nd - 4)).toNat) c11).map fU8) 86] w384:=H
   obtain ⟨i0385,i1385,ix385⟩:=idx_some h_x_12
   refine Sd (i:=11) H.has (idxSA (some 156) 25 5 ga0 len 24 .i64 (IntKind.i64.wrap ((IntKind.i64.wrap (nd - 4)) - 1)) (by kernel_rfl) (by kernel_rfl) i0385 (of_decide_eq_true hc378) ?_)
   refine Sd (i:=12) H.has (stAS fU8 none 5 0 ga0 ((IntKind.i64.wrap ((IntKind.i64.wrap (nd - 4)) - 1)).toNat) c12 ((((a1.set ((IntKind.i64.wrap (nd - 1)).toNat) c8).set ((IntKind.i64.wrap (nd - 2)).toNat) c9).set ((IntKind.i64.wrap (nd - 3)).toNat) c10).set ((IntKind.i64.wrap (nd - 4)).toNat) c11) 86 H rfl (by kernel_rfl) (by kernel_rfl) rfl (List.getElem?_eq_some_iff.1 ix385).1 ?_)
   intro w386 H
   obtain ⟨i0387,i1387,ix387⟩:=idx_some h_x_13
   refine Sd (i:=13) H.has (idxSA (some 157) 25 5 ga0 len 24 .i64 (IntKind.i64.wrap ((IntKind.i64.wrap (nd - 4)) - 2)) (by kernel_rfl) (by kernel_rfl) i0387 (of_decide_eq_true hc381) ?_)
   refine Sd (i:=14) H.has (stAS fU8 none 5 0 ga0 ((IntKind.i64.wrap ((IntKind.i64.wrap (nd - 4)) - 2)).toNat) c13 (((((a1.set ((IntKind.i64.wrap (nd - 1)).toNat) c8).set ((IntKind.i64.wrap (nd - 2)).toNat) c9).set ((IntKind.i64.wrap (nd - 3)).toNat) c10).set ((IntKind.i64.wrap (nd - 4)).toNat) c11).set ((IntKind.i64.wrap ((IntKind.i64.wrap (nd - 4)) - 1)).toNat) c12) 86 H rfl (by kernel_rfl) (by kernel_rfl) rfl (List.getElem?_eq_some_iff.1 ix387).1 ?_)
   intro w388 H
   refine Ed H.has ?_
   refine Sg 10 [.co [1,1,1,1,1,1]] [(0,.slice (some ⟨ga0,0,none⟩) len 24),(12,.int .u32 ((UInt32.ofInt (Int.tdiv ((UInt32.ofInt (Int.tdiv ((UInt32.ofInt (u1.toNat:Int)).toNat:Int) 10000)).toNat:Int) 100)).toNat:Int)),(161,.bool (decide ((IntKind.i64.wrap ((IntKind.i64.wrap (nd - 4)) - 2)) > 0)))] ?_
   rcases condT hf with ⟨hb389,hf⟩ | ⟨hb389,hf⟩
   ·rw [hb389]
    have p389:=of_decide_eq_true hb389
    refine Sg 6 [.op [1,1,1,1,1,1,0] 4] [(162,.slice (some ⟨ga0,0,none⟩) len 24),(165,.int .u8 (IntKind.u8.wrap (IntKind.u32.wrap (48+((UInt32.ofInt (Int.tdiv ((UInt32.ofInt (Int.tdiv ((UInt32.ofInt (u1.toNat:Int)).toNat:Int) 10000)).toNat:Int) 100)).toNat:Int)))))] ?_
    rw [q32_wrap (48+((UInt32.ofInt (Int.tdiv ((UInt32.ofInt (Int.tdiv ((UInt32.ofInt (u1.toNat:Int)).toNat:Int) 10000)).toNat:Int) 100)).toNat:Int))]
    rw [q8_wrap ((UInt32.ofInt (48+((UInt32.ofInt (Int.tdiv ((UInt32.ofInt (Int.tdiv ((UInt32.ofInt (u1.toNat:Int)).toNat:Int) 10000)).toNat:Int) 100)).toNat:Int))).toNat:Int)]
    obtain ⟨x_14,h_x_14,hf⟩:=bindE hf
    obtain ⟨hc390,hf⟩:=chkE hf
    obtain ⟨i0391,i1391,ix391⟩:=idx_some h_x_14
    refine st (idxSA (some 166) 25 5 ga0 len 24 .i64 0 (by kernel_rfl) (by kernel_rfl) i0391 (of_decide_eq_true hc390) ?_)
    refine st (stAS fU8 none 5 0 ga0 ((0:Int).toNat) (UInt8.ofInt ((UInt32.ofInt (48+((UInt32.ofInt (Int.tdiv ((UInt32.ofInt (Int.tdiv ((UInt32.ofInt (u1.toNat:Int)).toNat:Int) 10000)).toNat:Int) 100)).toNat:Int))).toNat:Int)) ((((((a1.set ((IntKind.i64.wrap (nd - 1)).toNat) c8).set ((IntKind.i64.wrap (nd - 2)).toNat) c9).set ((IntKind.i64.wrap (nd - 3)).toNat) c10).set ((IntKind.i64.wrap (nd - 4)).toNat) c11).set ((IntKind.i64.wrap ((IntKind.i64.wrap (nd - 4)) - 1)).toNat) c12).set ((IntKind.i64.wrap ((IntKind.i64.wrap (nd - 4)) - 2)).toNat) c13) 86 H rfl (by kernel_rfl) (by kernel_rfl) rfl (List.getElem?_eq_some_iff.1 ix391).1 ?_)
    intro w392 H
    refine Sg 1 [] [] ?_
    refine Er [] [] ?_
    obtain rfl:(((((((a1.set ((IntKind.i64.wrap (nd - 1)).toNat) c8).set ((IntKind.i64.wrap (nd - 2)).toNat) c9).set ((IntKind.i64.wrap (nd - 3)).toNat) c10).set ((IntKind.i64.wrap (nd - 4)).toNat) c11).set ((IntKind.i64.wrap ((IntKind.i64.wrap (nd - 4)) - 1)).toNat) c12).set ((IntKind.i64.wrap ((IntKind.i64.wrap (nd - 4)) - 2)).toNat) c13).set ((0:Int).toNat) (UInt8.ofInt ((UInt32.ofInt (48+((UInt32.ofInt (Int.tdiv ((UInt32.ofInt (Int.tdiv ((UInt32.ofInt (u1.toNat:Int)).toNat:Int) 10000)).toNat:Int) 100)).toNat:Int))).toNat:Int)))=r:=(Option.some.inj hf)
    exact ⟨_,rfl,m,rfl,H⟩
   ·rw [hb389]
    have p389:=of_decide_eq_false hb389
    refine Sg 2 [] [] ?_
    refine Er [] [] ?_
    obtain rfl:((((((a1.set ((IntKind.i64.wrap (nd - 1)).toNat) c8).set ((IntKind.i64.wrap (nd - 2)).toNat) c9).set ((IntKind.i64.wrap (nd - 3)).toNat) c10).set ((IntKind.i64.wrap (nd - 4)).toNat) c11).set ((IntKind.i64.wrap ((IntKind.i64.wrap (nd - 4)) - 1)).toNat) c12).set ((IntKind.i64.wrap ((IntKind.i64.wrap (nd - 4)) - 2)).toNat) c13)=r:=(Option.some.inj hf)
    exact ⟨_,rfl,m,rfl,H⟩
  ·rw [hb377]
   have p377:=of_decide_eq_false hb377
   refine Sg 7 [.co [1,1,1,1,1,1]] [(0,.slice (some ⟨ga0,0,none⟩) len 24),(12,.int .u32 ((UInt32.ofInt (Int.tdiv ((UInt32.ofInt (u1.toNat:Int)).toNat:Int) 10000)).toNat:Int)),(161,.bool (decide ((IntKind.i64.wrap (nd - 4)) > 0)))] ?_
   rcases condT hf with ⟨hb393,hf⟩ | ⟨hb393,hf⟩
   ·rw [hb393]
    have p393:=of_decide_eq_true hb393
    refine Sg 6 [.op [1,1,1,1,1,1,0] 4] [(162,.slice (some ⟨ga0,0,none⟩) len 24),(165,.int .u8 (IntKind.u8.wrap (IntKind.u32.wrap (48+((UInt32.ofInt (Int.tdiv ((UInt32.ofInt (u1.toNat:Int)).toNat:Int) 10000)).toNat:Int)))))] ?_
    rw [q32_wrap (48+((UInt32.ofInt (Int.tdiv ((UInt32.ofInt (u1.toNat:Int)).toNat:Int) 10000)).toNat:Int))]
    rw [q8_wrap ((UInt32.ofInt (48+((UInt32.ofInt (Int.tdiv ((UInt32.ofInt (u1.toNat:Int)).toNat:Int) 10000)).toNat:Int))).toNat:Int)]
    obtain ⟨x_15,h_x_15,hf⟩:=bindE hf
    obtain ⟨hc394,hf⟩:=chkE hf
    obtain ⟨i0395,i1395,ix395⟩:=idx_some h_x_15
    refine st (idxSA (some 166) 25 5 ga0 len 24 .i64 0 (by kernel_rfl) (by kernel_rfl) i0395 (of_decide_eq_true hc394) ?_)
    refine st (stAS fU8 none 5 0 ga0 ((0:Int).toNat) (UInt8.ofInt ((UInt32.ofInt (48+((UInt32.ofInt (Int.tdiv ((UInt32.ofInt (u1.toNat:Int)).toNat:Int) 10000)).toNat:Int))).toNat:Int)) ((((a1.set ((IntKind.i64.wrap (nd - 1)).toNat) c8).set ((IntKind.i64.wrap (nd - 2)).toNat) c9).set ((IntKind.i64.wrap (nd - 3)).toNat) c10).set ((IntKind.i64.wrap (nd - 4)).toNat) c11) 86 H rfl (by kernel_rfl) (by kernel_rfl) rfl (List.getElem?_eq_some_iff.1 ix395).1 ?_)
    intro w396 H
    refine Sg 1 [] [] ?_
    refine Er [] [] ?_
    obtain rfl:(((((a1.set ((IntKind.i64.wrap (nd - 1)).toNat) c8).set ((IntKind.i64.wrap (nd - 2)).toNat) c9).set ((IntKind.i64.wrap (nd - 3)).toNat) c10).set ((IntKind.i64.wrap (nd - 4)).toNat) c11).set ((0:Int).toNat) (UInt8.ofInt ((UInt32.ofInt (48+((UInt32.ofInt (Int.tdiv ((UInt32.ofInt (u1.toNat:Int)).toNat:Int) 10000)).toNat:Int))).toNat:Int)))=r:=(Option.some.inj hf)
    exact ⟨_,rfl,m,rfl,H⟩
   ·rw [hb393]
    have p393:=of_decide_eq_false hb393
    refine Sg 2 [] [] ?_
    refine Er [] [] ?_
    obtain rfl:((((a1.set ((IntKind.i64.wrap (nd - 1)).toNat) c8).set ((IntKind.i64.wrap (nd - 2)).toNat) c9).set ((IntKind.i64.wrap (nd - 3)).toNat) c10).set ((IntKind.i64.wrap (nd - 4)).toNat) c11)=r:=(Option.some.inj hf)
    exact ⟨_,rfl,m,rfl,H⟩
 ·rw [hb354]
  have p354:=of_decide_eq_false hb354
  refine Sg 8 [.co [1,1,1,1,0,1],.co [1,1,1,1,1]] [(0,.slice (some ⟨ga0,0,none⟩) len 24),(4,.int .i64 nd),(12,.int .u32 ((UInt32.ofInt (u1.toNat:Int)).toNat:Int)),(139,.bool (decide (nd ≥ 2)))] ?_
  rcases condT hf with ⟨hb397,hf⟩ | ⟨hb397,hf⟩
  ·rw [hb397]
   have p397:=of_decide_eq_true hb397
   refine Sg 15 [.co [1,1,1,1,0,1,0,1,1,0],.co [1,1,1,1,0,1,0,1,1,1],.co [1,1,1,1,1]] [(0,.slice (some ⟨ga0,0,none⟩) len 24),(4,.int .i64 nd),(12,.int .u32 (IntKind.u32.wrap (Int.tdiv ((UInt32.ofInt (u1.toNat:Int)).toNat:Int) 100))),(16,.int .u32 (IntKind.u32.wrap ((Int.tmod ((UInt32.ofInt (u1.toNat:Int)).toNat:Int) 100) * 2)))] ?_
   rw [q32_wrap (Int.tdiv ((UInt32.ofInt (u1.toNat:Int)).toNat:Int) 100)]
   rw [q32_wrap ((Int.tmod ((UInt32.ofInt (u1.toNat:Int)).toNat:Int) 100) * 2)]
   obtain ⟨c14,h_c14,hf⟩:=bindE hf
   obtain ⟨c15,h_c15,hf⟩:=bindE hf
   obtain ⟨x_16,h_x_16,hf⟩:=bindE hf
   obtain ⟨hc398,hf⟩:=chkE hf
   obtain ⟨i0399,i1399,ix399⟩:=idx_some h_x_16
   obtain ⟨x_17,h_x_17,hf⟩:=bindE hf
   obtain ⟨hc401,hf⟩:=chkE hf
   obtain ⟨i0402,i1402,ix402⟩:=idx_some h_x_17
   have hst:statB (bodyOf Tryd.f55) [1,1,1,1,0,1,0,1,1,0]=true:=by kernel_rfl
   refine Dw (Has m) H ?_
   intro w404 H
   refine Sk hst [0,1,2] [0,1,2] [(0,.slice (some ⟨ga0,0,none⟩) len 24),(4,.int .i64 nd),(12,.int .u32 ((UInt32.ofInt (Int.tdiv ((UInt32.ofInt (u1.toNat:Int)).toNat:Int) 100)).toNat:Int)),(16,.int .u32 ((UInt32.ofInt ((Int.tmod ((UInt32.ofInt (u1.toNat:Int)).toNat:Int) 100) * 2)).toNat:Int)),(145,.slice (some ⟨ga0,0,none⟩) len 24),(147,.int .i64 (IntKind.i64.wrap (nd - 1)))] ?_
   rw [show IntKind.i64.wrap (nd - 1)=(nd - 1) from w64 (by omega)]
   refine Sk hst [3,4,5] [0,1,2,3,4,5] [(0,.slice (some ⟨ga0,0,none⟩) len 24),(4,.int .i64 nd),(12,.int .u32 ((UInt32.ofInt (Int.tdiv ((UInt32.ofInt (u1.toNat:Int)).toNat:Int) 100)).toNat:Int)),(16,.int .u32 ((UInt32.ofInt ((Int.tmod ((UInt32.ofInt (u1.toNat:Int)).toNat:Int) 100) * 2)).toNat:Int)),(145,.slice (some ⟨ga0,0,none⟩) len 24),(147,.int .i64 (nd - 1)),(148,.slice (some ⟨ga0,0,none⟩) len 24),(150,.int .i64 (IntKind.i64.wrap (nd - 2)))] ?_
   rw [show IntKind.i64.wrap (nd - 2)=(nd - 2) from w64 (by omega)]
   refine Sk hst [6,7] [0,1,2,3,4,5,6,7] [(0,.slice (some ⟨ga0,0,none⟩) len 24),(4,.int .i64 nd),(12,.int .u32 ((UInt32.ofInt (Int.tdiv ((UInt32.ofInt (u1.toNat:Int)).toNat:Int) 100)).toNat:Int)),(16,.int .u32 ((UInt32.ofInt ((Int.tmod ((UInt32.ofInt (u1.toNat:Int)).toNat:Int) 100) * 2)).toNat:Int)),(145,.slice (some ⟨ga0,0,none⟩) len 24),(147,.int .i64 (nd - 1)),(148,.slice (some ⟨ga0,0,none⟩) len 24),(150,.int .i64 (nd - 2)),(152,.int .u32 (IntKind.u32.wrap (((UInt32.ofInt ((Int.tmod ((UInt32.ofInt (u1.toNat:Int)).toNat:Int) 100) * 2)).toNat:Int)+1)))] ?_
   rw [q32_wrap (((UInt32.ofInt ((Int.tmod ((UInt32.ofInt (u1.toNat:Int)).toNat:Int) 100) * 2)).toNat:Int)+1)]
   refine Sk hst [9] [0,1,2,3,4,5,6,7,9] [(0,.slice (some ⟨ga0,0,none⟩) len 24),(4,.int .i64 nd),(12,.int .u32 ((UInt32.ofInt (Int.tdiv ((UInt32.ofInt (u1.toNat:Int)).toNat:Int) 100)).toNat:Int)),(145,.slice (some ⟨ga0,0,none⟩) len 24),(147,.int .i64 (nd - 1)),(148,.slice (some ⟨ga0,0,none⟩) len 24),(150,.int .i64 (nd - 2)),(152,.int .u32 ((UInt32.ofInt (((UInt32.ofInt ((Int.tmod ((UInt32.ofInt (u1.toNat:Int)).toNat:Int) 100) * 2)).toNat:Int)+1)).toNat:Int)),(154,.int .u32 ((UInt32.ofInt ((Int.tmod ((UInt32.ofInt (u1.toNat:Int)).toNat:Int) 100) * 2)).toNat:Int))] ?_
   refine Tk (i:=8) (d:=(some 153)) (s:=vS (Instr.index 9 (.string ⟨([48,48,48,49,48,50,48,51,48,52,48,53,48,54,48,55,48,56,48,57,49,48,49,49,49,50,49,51,49,52,49,53,49,54,49,55,49,56,49,57,50,48,50,49,50,50,50,51,50,52,50,53,50,54,50,55,50,56,50,57,51,48,51,49,51,50,51,51,51,52,51,53,51,54,51,55,51,56,51,57,52,48,52,49,52,50,52,51,52,52,52,53,52,54,52,55,52,56,52,57,53,48,53,49,53,50,53,51,53,52,53,53,53,54,53,55,53,56,53,57,54,48,54,49,54,50,54,51,54,52,54,53,54,54,54,55,54,56,54,57,55,48,55,49,55,50,55,51,55,52,55,53,55,54,55,55,55,56,55,57,56,48,56,49,56,50,56,51,56,52,56,53,56,54,56,55,56,56,56,57,57,48,57,49,57,50,57,51,57,52,57,53,57,54,57,55,57,56,57,57]:List UInt8).toArray⟩) (.int .u32 ((UInt32.ofInt (((UInt32.ofInt ((Int.tmod ((UInt32.ofInt (u1.toNat:Int)).toNat:Int) 100) * 2)).toNat:Int)+1)).toNat:Int)))) (v:=.int .u8 (c14.toNat:Int)) hst (fun w' hw' => str_idx_run _ _ _ _ _ (by kernel_rfl) h_c14) ?_
   refine Tk (i:=10) (d:=(some 155)) (s:=vS (Instr.index 9 (.string ⟨([48,48,48,49,48,50,48,51,48,52,48,53,48,54,48,55,48,56,48,57,49,48,49,49,49,50,49,51,49,52,49,53,49,54,49,55,49,56,49,57,50,48,50,49,50,50,50,51,50,52,50,53,50,54,50,55,50,56,50,57,51,48,51,49,51,50,51,51,51,52,51,53,51,54,51,55,51,56,51,57,52,48,52,49,52,50,52,51,52,52,52,53,52,54,52,55,52,56,52,57,53,48,53,49,53,50,53,51,53,52,53,53,53,54,53,55,53,56,53,57,54,48,54,49,54,50,54,51,54,52,54,53,54,54,54,55,54,56,54,57,55,48,55,49,55,50,55,51,55,52,55,53,55,54,55,55,55,56,55,57,56,48,56,49,56,50,56,51,56,52,56,53,56,54,56,55,56,56,56,57,57,48,57,49,57,50,57,51,57,52,57,53,57,54,57,55,57,56,57,57]:List UInt8).toArray⟩) (.int .u32 ((UInt32.ofInt ((Int.tmod ((UInt32.ofInt (u1.toNat:Int)).toNat:Int) 100) * 2)).toNat:Int)))) (v:=.int .u8 (c15.toNat:Int)) hst (fun w' hw' => str_idx_run _ _ _ _ _ (by kernel_rfl) h_c15) ?_
   replace H:St w F m m [blkI ga0 (a1.map fU8) 86] w404:=H
   obtain ⟨i0405,i1405,ix405⟩:=idx_some h_x_16
   refine Sd (i:=11) H.has (idxSA (some 156) 25 5 ga0 len 24 .i64 (nd - 1) (by kernel_rfl) (by kernel_rfl) i0405 (of_decide_eq_true hc398) ?_)
   refine Sd (i:=12) H.has (stAS fU8 none 5 0 ga0 ((nd - 1).toNat) c14 a1 86 H rfl (by kernel_rfl) (by kernel_rfl) rfl (List.getElem?_eq_some_iff.1 ix405).1 ?_)
   intro w406 H
   obtain ⟨i0407,i1407,ix407⟩:=idx_some h_x_17
   refine Sd (i:=13) H.has (idxSA (some 157) 25 5 ga0 len 24 .i64 (nd - 2) (by kernel_rfl) (by kernel_rfl) i0407 (of_decide_eq_true hc401) ?_)
   refine Sd (i:=14) H.has (stAS fU8 none 5 0 ga0 ((nd - 2).toNat) c15 (a1.set ((nd - 1).toNat) c14) 86 H rfl (by kernel_rfl) (by kernel_rfl) rfl (List.getElem?_eq_some_iff.1 ix407).1 ?_)
   intro w408 H
   refine Ed H.has ?_
   refine Sg 10 [.co [1,1,1,1,1,1]] [(0,.slice (some ⟨ga0,0,none⟩) len 24),(12,.int .u32 ((UInt32.ofInt (Int.tdiv ((UInt32.ofInt (u1.toNat:Int)).toNat:Int) 100)).toNat:Int)),(161,.bool (decide ((IntKind.i64.wrap (nd - 2)) > 0)))] ?_
   rw [show IntKind.i64.wrap (nd - 2)=(nd - 2) from w64 (by omega)]
   rcases condT hf with ⟨hb409,hf⟩ | ⟨hb409,hf⟩
   ·rw [hb409]
    have p409:=of_decide_eq_true hb409
    refine Sg 6 [.op [1,1,1,1,1,1,0] 4] [(162,.slice (some ⟨ga0,0,none⟩) len 24),(165,.int .u8 (IntKind.u8.wrap (IntKind.u32.wrap (48+((UInt32.ofInt (Int.tdiv ((UInt32.ofInt (u1.toNat:Int)).toNat:Int) 100)).toNat:Int)))))] ?_
    rw [q32_wrap (48+((UInt32.ofInt (Int.tdiv ((UInt32.ofInt (u1.toNat:Int)).toNat:Int) 100)).toNat:Int))]
    rw [q8_wrap ((UInt32.ofInt (48+((UInt32.ofInt (Int.tdiv ((UInt32.ofInt (u1.toNat:Int)).toNat:Int) 100)).toNat:Int))).toNat:Int)]
    obtain ⟨x_18,h_x_18,hf⟩:=bindE hf
    obtain ⟨hc410,hf⟩:=chkE hf
    obtain ⟨i0411,i1411,ix411⟩:=idx_some h_x_18
    refine st (idxSA (some 166) 25 5 ga0 len 24 .i64 0 (by kernel_rfl) (by kernel_rfl) i0411 (of_decide_eq_true hc410) ?_)
    refine st (stAS fU8 none 5 0 ga0 ((0:Int).toNat) (UInt8.ofInt ((UInt32.ofInt (48+((UInt32.ofInt (Int.tdiv ((UInt32.ofInt (u1.toNat:Int)).toNat:Int) 100)).toNat:Int))).toNat:Int)) ((a1.set ((nd - 1).toNat) c14).set ((nd - 2).toNat) c15) 86 H rfl (by kernel_rfl) (by kernel_rfl) rfl (List.getElem?_eq_some_iff.1 ix411).1 ?_)
    intro w412 H
    refine Sg 1 [] [] ?_
    refine Er [] [] ?_
    obtain rfl:(((a1.set ((nd - 1).toNat) c14).set ((nd - 2).toNat) c15).set ((0:Int).toNat) (UInt8.ofInt ((UInt32.ofInt (48+((UInt32.ofInt (Int.tdiv ((UInt32.ofInt (u1.toNat:Int)).toNat:Int) 100)).toNat:Int))).toNat:Int)))=r:=(Option.some.inj hf)
    exact ⟨_,rfl,m,rfl,H⟩
   ·rw [hb409]
    have p409:=of_decide_eq_false hb409
    refine Sg 2 [] [] ?_
    refine Er [] [] ?_
    obtain rfl:((a1.set ((nd - 1).toNat) c14).set ((nd - 2).toNat) c15)=r:=(Option.some.inj hf)
    exact ⟨_,rfl,m,rfl,H⟩
  ·rw [hb397]
   have p397:=of_decide_eq_false hb397
   refine Sg 7 [.co [1,1,1,1,1,1]] [(0,.slice (some ⟨ga0,0,none⟩) len 24),(12,.int .u32 ((UInt32.ofInt (u1.toNat:Int)).toNat:Int)),(161,.bool (decide (nd > 0)))] ?_
   rcases condT hf with ⟨hb413,hf⟩ | ⟨hb413,hf⟩
   ·rw [hb413]
    have p413:=of_decide_eq_true hb413
    refine Sg 6 [.op [1,1,1,1,1,1,0] 4] [(162,.slice (some ⟨ga0,0,none⟩) len 24),(165,.int .u8 (IntKind.u8.wrap (IntKind.u32.wrap (48+((UInt32.ofInt (u1.toNat:Int)).toNat:Int)))))] ?_
    rw [q32_wrap (48+((UInt32.ofInt (u1.toNat:Int)).toNat:Int))]
    rw [q8_wrap ((UInt32.ofInt (48+((UInt32.ofInt (u1.toNat:Int)).toNat:Int))).toNat:Int)]
    obtain ⟨x_19,h_x_19,hf⟩:=bindE hf
    obtain ⟨hc414,hf⟩:=chkE hf
    obtain ⟨i0415,i1415,ix415⟩:=idx_some h_x_19
    refine st (idxSA (some 166) 25 5 ga0 len 24 .i64 0 (by kernel_rfl) (by kernel_rfl) i0415 (of_decide_eq_true hc414) ?_)
    refine st (stAS fU8 none 5 0 ga0 ((0:Int).toNat) (UInt8.ofInt ((UInt32.ofInt (48+((UInt32.ofInt (u1.toNat:Int)).toNat:Int))).toNat:Int)) a1 86 H rfl (by kernel_rfl) (by kernel_rfl) rfl (List.getElem?_eq_some_iff.1 ix415).1 ?_)
    intro w416 H
    refine Sg 1 [] [] ?_
    refine Er [] [] ?_
    obtain rfl:(a1.set ((0:Int).toNat) (UInt8.ofInt ((UInt32.ofInt (48+((UInt32.ofInt (u1.toNat:Int)).toNat:Int))).toNat:Int)))=r:=(Option.some.inj hf)
    exact ⟨_,rfl,m,rfl,H⟩
   ·rw [hb413]
    have p413:=of_decide_eq_false hb413
    refine Sg 2 [] [] ?_
    refine Er [] [] ?_
    have hret:=(Option.some.inj hf)
    subst hret
    exact ⟨_,rfl,m,rfl,H⟩
theorem internal_strconv_isPowerOfTwo_c {m:Mem} {w:World} (hm:Has m w) (x_:Int) :
  Calls Tryd.prog 60 #[.int .i64 x_] w fun e w' => ∃ v,e=.returned v ∧ v=.bool (internal_strconv_isPowerOfTwo x_) ∧ Ex w w':=by
 generalize hf:internal_strconv_isPowerOfTwo x_=r
 unfold internal_strconv_isPowerOfTwo at hf
 have H:=St.start0 hm
 refine Fc Tryd.func60 ?_
 refine Sg 13 [.co [1,1]] [(2,.bool ((Go.bits .and .i64 x_ (IntKind.i64.wrap (x_ - 1))) == 0))] ?_
 refine Rr [2] [.bool ((Go.bits .and .i64 x_ (IntKind.i64.wrap (x_ - 1))) == 0)] ?_
 obtain rfl:((Go.bits .and .i64 x_ (IntKind.i64.wrap (x_ - 1))) == 0)=r:=hf
 exact ⟨_,rfl,rfl,H.scalar⟩
theorem math_bits_TrailingZeros64_c {m:Mem} {w:World} (hm:Has m w) (hG2:TabM m 2 (tab2.map fU8)) (x_:UInt64) {r:Int} (hf:math_bits_TrailingZeros64 x_=some r) :
  Calls Tryd.prog 63 #[.int .u64 (x_.toNat:Int)] w fun e w' => ∃ v,e=.returned v ∧ v=.int .i64 r ∧ Ex w w':=by
 unfold math_bits_TrailingZeros64 at hf
 have H:=St.start0 hm
 refine Fc Tryd.func63 ?_
 refine Sg 10 [.co [1,0,1],.co [1,1]] [(0,.int .u64 (x_.toNat:Int)),(4,.bool ((x_.toNat:Int) == 0))] ?_
 rcases condT hf with ⟨hb2,hf⟩ | ⟨hb2,hf⟩
 ·rw [hb2]
  refine Sg 5 [.co [1,0,1,0,1],.co [1,1]] [(2,.int .i64 64)] ?_
  refine Rr [2] [.int .i64 64] ?_
  obtain rfl:64=r:=(Option.some.inj hf)
  exact ⟨_,rfl,rfl,H.scalar⟩
 ·rw [hb2]
  refine Sg 9 [.op [1,1,0] 5,.co [1,1,1]] [(9,.int .u64 (IntKind.u64.wrap ((Go.bits .and .u64 (x_.toNat:Int) (IntKind.u64.wrap (0 - (x_.toNat:Int)))) * 285870213051353865)))] ?_
  rw [q64_sub (0:UInt64) x_ 0 (x_.toNat:Int) (by rfl) (by rfl)]
  rw [q64_and x_ ((0:UInt64) - x_) (x_.toNat:Int) (((0:UInt64) - x_).toNat:Int) (by rfl) (by rfl)]
  rw [q64_mul (x_ &&& ((0:UInt64) - x_)) (285870213051353865:UInt64) ((x_ &&& ((0:UInt64) - x_)).toNat:Int) 285870213051353865 (by rfl) (by rfl)]
  refine st (runR (by kernel_rfl:fetch _ _ _ _ _=some ((some 10),vS (Op.shift .shr .u64 (((x_ &&& ((0:UInt64) - x_)) * (285870213051353865:UInt64)).toNat:Int) .u64 58))) (shr64_run _ _ (by decide)) ?_)
  obtain ⟨x_1,h_x_1,hf⟩:=bindE hf
  obtain ⟨i03,i13,ix3⟩:=idx_some h_x_1
  refine st (idxAS (some 11) 98 64 5 2 .u64 ((shr64 ((x_ &&& ((0:UInt64) - x_)) * (285870213051353865:UInt64)) 58).toNat:Int) (by kernel_rfl) (by kernel_rfl) i03 i13 ?_)
  refine st (Lr (some 12) 5 (⟨2,((shr64 ((x_ &&& ((0:UInt64) - x_)) * (285870213051353865:UInt64)) 58).toNat:Int).toNat,none⟩) (.int .u8 (x_1.toNat:Int)) (H.cellI (hG2.at_ ix3)) ?_)
  refine Sg 3 [.co [1,1,1]] [(2,.int .i64 (IntKind.i64.wrap (x_1.toNat:Int)))] ?_
  have:=x_1.toNat_lt
  rw [show IntKind.i64.wrap (x_1.toNat:Int)=(x_1.toNat:Int) from w64 (by omega)]
  refine Rr [2] [.int .i64 (x_1.toNat:Int)] ?_
  obtain rfl:(x_1.toNat:Int)=r:=(Option.some.inj hf)
  exact ⟨_,rfl,rfl,H.scalar⟩
theorem math_bits_TrailingZeros_c {m:Mem} {w:World} (hm:Has m w) (hG2:TabM m 2 (tab2.map fU8)) (x_:UInt64) {r:Int} (hf:math_bits_TrailingZeros x_=some r) :
  Calls Tryd.prog 61 #[.int .u64 (x_.toNat:Int)] w fun e w' => ∃ v,e=.returned v ∧ v=.int .i64 r ∧ Ex w w':=by
 unfold math_bits_TrailingZeros at hf
 have H:=St.start0 hm
 refine Fc Tryd.func61 ?_
 refine Sg 10 [.op [1,1,0] 1,.co [1,1,1]] [(6,.int .u64 (x_.toNat:Int))] ?_
 obtain ⟨traili,h_traili,hf⟩:=bindE hf
 refine st (Cl (some 7) 63 #[.int .u64 (x_.toNat:Int)] Tryd.call63 (math_bits_TrailingZeros64_c H.has hG2 x_ h_traili) ?_)
 rintro _ w1 ⟨rfl,hx1⟩
 replace H:=H.ex hx1
 refine Sg 2 [.co [1,1,1]] [(2,.int .i64 traili)] ?_
 refine Rr [2] [.int .i64 traili] ?_
 have hret:=(Option.some.inj hf)
 subst hret
 exact ⟨_,rfl,rfl,H.scalar⟩
theorem internal_strconv_formatBits_c {m:Mem} {w:World} (hm:Has m w) (hG2:TabM m 2 (tab2.map fU8)) (dst:(List UInt8)) (A0_0:Option Addr) (c0_0:Nat) (u:UInt64) (base:Int) (neg:Bool) (append_:Bool) {F:Nat → Prop} (hsep:Sep m w [rowI rU8 5 A0_0 c0_0 dst] F) (hF:∀ k,F k → m k=none) {r:((List UInt8) × (List UInt8))} (hf:internal_strconv_formatBits dst u base neg append_=some r) :
  Calls Tryd.prog 56 #[.slice A0_0 dst.length c0_0,.int .u64 (u.toNat:Int),.int .i64 base,.bool neg,.bool append_] w fun e w' => ∃ v,e=.returned v ∧ ∃ Az_0:Option Addr,∃ cz_0:Nat,∃ m':Mem,v=.tuple #[.slice Az_0 r.1.length cz_0,.string ⟨r.2.toArray⟩] ∧ St w F m m' [rowI rU8 5 Az_0 cz_0 r.1] w' ∧ r.2.length ≤ 9223372036854775807:=by
 unfold internal_strconv_formatBits at hf
 have H:=St.start hm hsep hF
 refine Fc Tryd.func56 ?_
 refine Sg 11 [.op [1,0,0] 3,.co [1,0,1],.co [1,1]] [(0,.slice A0_0 dst.length c0_0),(1,.int .u64 (u.toNat:Int)),(2,.int .i64 base),(3,.bool neg),(4,.bool append_),(10,.slice none 0 0),(11,.string ⟨([]:List UInt8).toArray⟩),(21,.bool (decide (base < 2)))] ?_
 rcases condT hf with ⟨hb3,hf⟩ | ⟨hb3,hf⟩
 ·rw [hb3]
  have p3:=of_decide_eq_true hb3
  refine Sg 10 [.op [1,0,1,0] 0,.co [1,1]] [(0,.slice A0_0 dst.length c0_0),(1,.int .u64 (u.toNat:Int)),(2,.int .i64 base),(3,.bool neg),(4,.bool append_),(10,.slice none 0 0),(11,.string ⟨([]:List UInt8).toArray⟩)] ?_
  cases hf
 ·rw [hb3]
  have p3:=of_decide_eq_false hb3
  refine Sg 4 [.op [1,0,0] 7,.co [1,0,1],.co [1,1]] [(0,.slice A0_0 dst.length c0_0),(1,.int .u64 (u.toNat:Int)),(2,.int .i64 base),(3,.bool neg),(4,.bool append_),(10,.slice none 0 0),(11,.string ⟨([]:List UInt8).toArray⟩),(25,.bool (base == 10))] ?_
  rcases condT hf with ⟨hb4,hf⟩ | ⟨hb4,hf⟩
  ·rw [hb4]
   refine Sg 6 [.op [1,0,1,0] 0,.co [1,1]] [(0,.slice A0_0 dst.length c0_0),(1,.int .u64 (u.toNat:Int)),(2,.int .i64 base),(3,.bool neg),(4,.bool append_),(10,.slice none 0 0),(11,.string ⟨([]:List UInt8).toArray⟩)] ?_
   cases hf
  ·rw [hb4]
   refine Sg 4 [.co [1,0,1],.co [1,1]] [(0,.slice A0_0 dst.length c0_0),(1,.int .u64 (u.toNat:Int)),(2,.int .i64 base),(3,.bool neg),(4,.bool append_),(10,.slice none 0 0),(11,.string ⟨([]:List UInt8).toArray⟩),(28,.bool (decide (base > 36)))] ?_
   rcases condT hf with ⟨hb6,hf⟩ | ⟨hb6,hf⟩
   ·rw [hb6]
    have p6:=of_decide_eq_true hb6
    refine Sg 2 [.op [1,0,1,0] 0,.co [1,1]] [(0,.slice A0_0 dst.length c0_0),(1,.int .u64 (u.toNat:Int)),(2,.int .i64 base),(3,.bool neg),(4,.bool append_),(10,.slice none 0 0),(11,.string ⟨([]:List UInt8).toArray⟩)] ?_
    cases hf
   ·rw [hb6]
    have p6:=of_decide_eq_false hb6
    refine Sg 4 [.op [1,1,0] 0,.co [1,1,1]] [(0,.slice A0_0 dst.length c0_0),(1,.int .u64 (u.toNat:Int)),(2,.int .i64 base),(3,.bool neg),(4,.bool append_),(10,.slice none 0 0),(11,.string ⟨([]:List UInt8).toArray⟩)] ?_
    refine st (Nw (some 12) (fun g => .pointer (some ⟨g,0,none⟩)) [.int .u8 0,.int .u8 0,.int .u8 0,.int .u8 0,.int .u8 0,.int .u8 0,.int .u8 0,.int .u8 0,.int .u8 0,.int .u8 0,.int .u8 0,.int .u8 0,.int .u8 0,.int .u8 0,.int .u8 0,.int .u8 0,.int .u8 0,.int .u8 0,.int .u8 0,.int .u8 0,.int .u8 0,.int .u8 0,.int .u8 0,.int .u8 0,.int .u8 0,.int .u8 0,.int .u8 0,.int .u8 0,.int .u8 0,.int .u8 0,.int .u8 0,.int .u8 0,.int .u8 0,.int .u8 0,.int .u8 0,.int .u8 0,.int .u8 0,.int .u8 0,.int .u8 0,.int .u8 0,.int .u8 0,.int .u8 0,.int .u8 0,.int .u8 0,.int .u8 0,.int .u8 0,.int .u8 0,.int .u8 0,.int .u8 0,.int .u8 0,.int .u8 0,.int .u8 0,.int .u8 0,.int .u8 0,.int .u8 0,.int .u8 0,.int .u8 0,.int .u8 0,.int .u8 0,.int .u8 0,.int .u8 0,.int .u8 0,.int .u8 0,.int .u8 0,.int .u8 0] 94 H ?_)
    intro g7 w7 H
    replace H:=H.toArr 0 fU8 (List.replicate 65 (0:UInt8)) rfl (by kernel_rfl)
    refine Sg 10 [.co [1,1,1,1,0,1],.co [1,1,1,1,1]] [(0,.slice A0_0 dst.length c0_0),(1,.int .u64 (u.toNat:Int)),(2,.int .i64 base),(3,.bool neg),(4,.bool append_),(10,.slice none 0 0),(11,.string ⟨([]:List UInt8).toArray⟩),(12,.pointer (some ⟨g7,0,none⟩)),(13,.int .i64 65),(30,.bool neg)] ?_
    obtain ⟨y226,hp226,hf⟩:=ltE hf
    refine joinR 0 (fun (x:UInt64 × Bool) => [(0,.slice A0_0 dst.length c0_0),(1,.int .u64 (x.1.toNat:Int)),(2,.int .i64 base),(3,.bool x.2),(4,.bool append_),(10,.slice none 0 0),(11,.string ⟨([]:List UInt8).toArray⟩),(12,.pointer (some ⟨g7,0,none⟩)),(13,.int .i64 65)]) (fun (x:UInt64 × Bool) (wj226:World) => y226=(x.1,x.2) ∧ St w F m m [rowI rU8 5 A0_0 c0_0 dst,blkI g7 ((List.replicate 65 (0:UInt8)).map fU8) 94] wj226) (by kernel_rfl) ?_ ?_
    ·rcases condT hp226 with ⟨hb228,hp226⟩ | ⟨hb228,hp226⟩
     ·rw [hb228]
      refine Sg 6 [.le 0,.co [1,1,1,1,1]] [(0,.slice A0_0 dst.length c0_0),(1,.int .u64 (IntKind.u64.wrap (0 - (u.toNat:Int)))),(2,.int .i64 base),(3,.bool true),(4,.bool append_),(10,.slice none 0 0),(11,.string ⟨([]:List UInt8).toArray⟩),(12,.pointer (some ⟨g7,0,none⟩)),(13,.int .i64 65)] ?_
      rw [q64_sub (0:UInt64) u 0 (u.toNat:Int) (by rfl) (by rfl)]
      refine Lj (((0:UInt64) - u),true) ⟨hp226.symm,(H.pull 1 rfl)⟩
     ·rw [hb228]
      refine Sg 2 [.le 0,.co [1,1,1,1,1]] [(0,.slice A0_0 dst.length c0_0),(1,.int .u64 (u.toNat:Int)),(2,.int .i64 base),(3,.bool false),(4,.bool append_),(10,.slice none 0 0),(11,.string ⟨([]:List UInt8).toArray⟩),(12,.pointer (some ⟨g7,0,none⟩)),(13,.int .i64 65)] ?_
      refine Lj (u,false) ⟨hp226.symm,(H.pull 1 rfl)⟩
    rintro ⟨u1,neg1⟩ wj226 ⟨hy226,H⟩
    try dsimp only at hy226
    try dsimp only at H
    rw [hy226] at hf
    try dsimp only at hf
    refine Sg 4 [.op [1,1,1,1,1,0,0] 1,.co [1,1,1,1,1,0,1],.co [1,1,1,1,1,1]] [(0,.slice A0_0 dst.length c0_0),(1,.int .u64 (u1.toNat:Int)),(2,.int .i64 base),(3,.bool neg1),(4,.bool append_),(10,.slice none 0 0),(11,.string ⟨([]:List UInt8).toArray⟩),(12,.pointer (some ⟨g7,0,none⟩)),(13,.int .i64 65),(33,.int .i64 base)] ?_
    refine st (Cl (some 34) 60 #[.int .i64 base] Tryd.call60 (internal_strconv_isPowerOfTwo_c H.has base) ?_)
    rintro _ w229 ⟨rfl,hx229⟩
    replace H:=H.ex hx229
    refine Sg 1 [.co [1,1,1,1,1,0,1],.co [1,1,1,1,1,1]] [(0,.slice A0_0 dst.length c0_0),(1,.int .u64 (u1.toNat:Int)),(2,.int .i64 base),(3,.bool neg1),(4,.bool append_),(10,.slice none 0 0),(11,.string ⟨([]:List UInt8).toArray⟩),(12,.pointer (some ⟨g7,0,none⟩)),(13,.int .i64 65),(34,.bool (internal_strconv_isPowerOfTwo base))] ?_
    rcases condT hf with ⟨hb230,hf⟩ | ⟨hb230,hf⟩
    ·rw [hb230]
     refine Sg 5 [.op [1,1,1,1,1,0,1,0,0] 2,.co [1,1,1,1,1,0,1,0,1],.co [1,1,1,1,1,1]] [(0,.slice A0_0 dst.length c0_0),(1,.int .u64 (u1.toNat:Int)),(2,.int .i64 base),(3,.bool neg1),(4,.bool append_),(10,.slice none 0 0),(11,.string ⟨([]:List UInt8).toArray⟩),(12,.pointer (some ⟨g7,0,none⟩)),(13,.int .i64 65),(36,.int .u64 (IntKind.u64.wrap base))] ?_
     rw [q64_wrap base]
     obtain ⟨traili,h_traili,hf⟩:=bindE hf
     refine st (Cl (some 37) 61 #[.int .u64 ((UInt64.ofInt base).toNat:Int)] Tryd.call61 (math_bits_TrailingZeros_c H.has hG2 (UInt64.ofInt base) h_traili) ?_)
     rintro _ w231 ⟨rfl,hx231⟩
     replace H:=H.ex hx231
     refine Sg 17 [.co [1,1,1,1,1,0,1,0,1,1,1,0],.co [1,1,1,1,1,0,1,0,1,1,1,1],.co [1,1,1,1,1,1]] [(0,.slice A0_0 dst.length c0_0),(1,.int .u64 (u1.toNat:Int)),(3,.bool neg1),(4,.bool append_),(10,.slice none 0 0),(11,.string ⟨([]:List UInt8).toArray⟩),(12,.pointer (some ⟨g7,0,none⟩)),(13,.int .i64 65),(14,.int .u64 (IntKind.u64.wrap traili)),(15,.int .u64 (IntKind.u64.wrap base)),(16,.int .u64 (IntKind.u64.wrap ((IntKind.u64.wrap base) - 1)))] ?_
     rw [q64_wrap traili]
     rw [q64_wrap base]
     rw [q64_sub (UInt64.ofInt base) (1:UInt64) ((UInt64.ofInt base).toNat:Int) 1 (by rfl) (by rfl)]
     obtain ⟨y257,hp257,hf⟩:=bindE hf
     refine joinR 0 (fun (x:UInt64 × (List UInt8) × Int) => [(0,.slice A0_0 dst.length c0_0),(1,.int .u64 (x.1.toNat:Int)),(3,.bool neg1),(4,.bool append_),(10,.slice none 0 0),(11,.string ⟨([]:List UInt8).toArray⟩),(12,.pointer (some ⟨g7,0,none⟩)),(13,.int .i64 x.2.2)]) (fun (x:UInt64 × (List UInt8) × Int) (wj257:World) => y257=(x.1,x.2.1,x.2.2) ∧ St w F m m [rowI rU8 5 A0_0 c0_0 dst,blkI g7 (x.2.1.map fU8) 94] wj257) (by kernel_rfl) ?_ ?_
     ·refine Sg 1 [.co [1,1,1,1,1,0,1,0,1,1,1,0,0],.bl 0,.le 0,.co [1,1,1,1,1,0,1,0,1,1,1,1],.co [1,1,1,1,1,1]] [(0,.slice A0_0 dst.length c0_0),(1,.int .u64 (u1.toNat:Int)),(3,.bool neg1),(4,.bool append_),(10,.slice none 0 0),(11,.string ⟨([]:List UInt8).toArray⟩),(12,.pointer (some ⟨g7,0,none⟩)),(13,.int .i64 65),(14,.int .u64 ((UInt64.ofInt traili).toNat:Int)),(15,.int .u64 ((UInt64.ofInt base).toNat:Int)),(16,.int .u64 (((UInt64.ofInt base) - (1:UInt64)).toNat:Int))] ?_
      obtain ⟨nn273,hR273⟩:=loopO_iff.1 hp257
      refine Lp 1 (fun (x:Nat × UInt64 × (List UInt8) × Int) => [(0,.slice A0_0 dst.length c0_0),(1,.int .u64 (x.2.1.toNat:Int)),(3,.bool neg1),(4,.bool append_),(10,.slice none 0 0),(11,.string ⟨([]:List UInt8).toArray⟩),(12,.pointer (some ⟨g7,0,none⟩)),(13,.int .i64 x.2.2.2),(14,.int .u64 ((UInt64.ofInt traili).toNat:Int)),(15,.int .u64 ((UInt64.ofInt base).toNat:Int)),(16,.int .u64 (((UInt64.ofInt base) - (1:UInt64)).toNat:Int))]) (fun (x:Nat × UInt64 × (List UInt8) × Int) (wl273:World) => iter (fun s => internal_strconv_formatBits_l1 base traili s.1 s.2.1 s.2.2) x.1 (x.2.1,x.2.2.1,x.2.2.2)=some y257 ∧ St w F m m [rowI rU8 5 A0_0 c0_0 dst,blkI g7 (x.2.2.1.map fU8) 94] wl273) (fun (x:Nat × UInt64 × (List UInt8) × Int) => x.1) (nn273,u1,(List.replicate 65 (0:UInt8)),65) ?_ ?_
      ·exact ⟨hR273,H⟩
      rintro ⟨n273,u2,a,i⟩ wl273 ⟨hR273,H⟩
      try dsimp only at hR273
      try dsimp only at H
      obtain ⟨nk273,q273,rfl,hb_273,hnx273,hfin273⟩:=iterE hR273
      replace hb_273:internal_strconv_formatBits_l1 base traili u2 a i=some q273:=hb_273
      unfold internal_strconv_formatBits_l1 at hb_273
      refine Sg 7 [.co [1,1,1,1,1,0,1,0,1,1,1,0,0,0,0,1],.co [1,1,1,1,1,0,1,0,1,1,1,0,0,0,1],.le 1,.bl 0,.le 0,.co [1,1,1,1,1,0,1,0,1,1,1,1],.co [1,1,1,1,1,1]] [(0,.slice A0_0 dst.length c0_0),(1,.int .u64 (u2.toNat:Int)),(3,.bool neg1),(4,.bool append_),(10,.slice none 0 0),(11,.string ⟨([]:List UInt8).toArray⟩),(12,.pointer (some ⟨g7,0,none⟩)),(13,.int .i64 i),(14,.int .u64 ((UInt64.ofInt traili).toNat:Int)),(15,.int .u64 ((UInt64.ofInt base).toNat:Int)),(16,.int .u64 (((UInt64.ofInt base) - (1:UInt64)).toNat:Int)),(46,.bool (decide ((u2.toNat:Int) ≥ ((UInt64.ofInt base).toNat:Int))))] ?_
      rcases condT hb_273 with ⟨hb275,hb_273⟩ | ⟨hb275,hb_273⟩
      ·rw [hb275]
       have p275:=of_decide_eq_true hb275
       refine Sg 15 [.op [1,1,1,1,1,0,1,0,1,1,1,0,0,0,1,0,1,0] 4,.co [1,1,1,1,1,0,1,0,1,1,1,0,0,0,1,0,1,1],.bl 1,.le 1,.bl 0,.le 0,.co [1,1,1,1,1,0,1,0,1,1,1,1],.co [1,1,1,1,1,1]] [(0,.slice A0_0 dst.length c0_0),(1,.int .u64 (u2.toNat:Int)),(3,.bool neg1),(4,.bool append_),(10,.slice none 0 0),(11,.string ⟨([]:List UInt8).toArray⟩),(12,.pointer (some ⟨g7,0,none⟩)),(13,.int .i64 (IntKind.i64.wrap (i - 1))),(14,.int .u64 ((UInt64.ofInt traili).toNat:Int)),(15,.int .u64 ((UInt64.ofInt base).toNat:Int)),(16,.int .u64 (((UInt64.ofInt base) - (1:UInt64)).toNat:Int)),(49,.int .i64 (IntKind.i64.wrap (i - 1))),(52,.int .u64 (Go.bits .and .u64 (u2.toNat:Int) (((UInt64.ofInt base) - (1:UInt64)).toNat:Int)))] ?_
       rw [q64_and u2 ((UInt64.ofInt base) - (1:UInt64)) (u2.toNat:Int) (((UInt64.ofInt base) - (1:UInt64)).toNat:Int) (by rfl) (by rfl)]
       obtain ⟨c,h_c,hb_273⟩:=bindE hb_273
       refine st (Ts (some 53) 9 ([48,49,50,51,52,53,54,55,56,57,97,98,99,100,101,102,103,104,105,106,107,108,109,110,111,112,113,114,115,116,117,118,119,120,121,122]:List UInt8) .u64 ((u2 &&& ((UInt64.ofInt base) - (1:UInt64))).toNat:Int) c h_c ?_)
       obtain ⟨x_,h_x_,hb_273⟩:=bindE hb_273
       obtain ⟨hc276,hb_273⟩:=chkE hb_273
       obtain ⟨i0277,i1277,ix277⟩:=idx_some h_x_
       refine st (idxAS (some 54) 94 65 5 g7 .i64 (IntKind.i64.wrap (i - 1)) (by kernel_rfl) (by kernel_rfl) i0277 (of_decide_eq_true hc276) ?_)
       refine st (stAS fU8 none 5 1 g7 ((IntKind.i64.wrap (i - 1)).toNat) c a 94 H rfl (by kernel_rfl) (by kernel_rfl) rfl (List.getElem?_eq_some_iff.1 ix277).1 ?_)
       intro w278 H
       refine Sg 4 [.op [1,1,1,1,1,0,1,0,1,1,1,0,0,0,1,0,1,1] 2,.bl 1,.le 1,.bl 0,.le 0,.co [1,1,1,1,1,0,1,0,1,1,1,1],.co [1,1,1,1,1,1]] [(0,.slice A0_0 dst.length c0_0),(3,.bool neg1),(4,.bool append_),(10,.slice none 0 0),(11,.string ⟨([]:List UInt8).toArray⟩),(12,.pointer (some ⟨g7,0,none⟩)),(13,.int .i64 (IntKind.i64.wrap (i - 1))),(14,.int .u64 ((UInt64.ofInt traili).toNat:Int)),(15,.int .u64 ((UInt64.ofInt base).toNat:Int)),(16,.int .u64 (((UInt64.ofInt base) - (1:UInt64)).toNat:Int)),(55,.int .u64 (u2.toNat:Int)),(56,.int .u64 ((UInt64.ofInt traili).toNat:Int))] ?_
       replace H:St w F m m [rowI rU8 5 A0_0 c0_0 dst,blkI g7 ((a.set ((IntKind.i64.wrap (i - 1)).toNat) c).map fU8) 94] w278:=H
       refine st (runR (by kernel_rfl:fetch _ _ _ _ _=some ((some 57),vS (Op.shift .shr .u64 (u2.toNat:Int) .u64 ((UInt64.ofInt traili).toNat:Int)))) (shr64_run _ _ (by omega)) ?_)
       refine Sg 3 [.le 1,.bl 0,.le 0,.co [1,1,1,1,1,0,1,0,1,1,1,1],.co [1,1,1,1,1,1]] [(0,.slice A0_0 dst.length c0_0),(1,.int .u64 ((shr64 u2 ((UInt64.ofInt traili).toNat:Int)).toNat:Int)),(3,.bool neg1),(4,.bool append_),(10,.slice none 0 0),(11,.string ⟨([]:List UInt8).toArray⟩),(12,.pointer (some ⟨g7,0,none⟩)),(13,.int .i64 (IntKind.i64.wrap (i - 1))),(14,.int .u64 ((UInt64.ofInt traili).toNat:Int)),(15,.int .u64 ((UInt64.ofInt base).toNat:Int)),(16,.int .u64 (((UInt64.ofInt base) - (1:UInt64)).toNat:Int))] ?_
       refine Lq (nk273,(shr64 u2 ((UInt64.ofInt traili).toNat:Int)),(a.set ((IntKind.i64.wrap (i - 1)).toNat) c),(IntKind.i64.wrap (i - 1))) (Nat.lt_succ_self _) ⟨hnx273 _ (Option.some.inj hb_273).symm,H⟩
      ·rw [hb275]
       have p275:=of_decide_eq_false hb275
       refine Sg 2 [.le 0,.co [1,1,1,1,1,0,1,0,1,1,1,1],.co [1,1,1,1,1,1]] [(0,.slice A0_0 dst.length c0_0),(1,.int .u64 (u2.toNat:Int)),(3,.bool neg1),(4,.bool append_),(10,.slice none 0 0),(11,.string ⟨([]:List UInt8).toArray⟩),(12,.pointer (some ⟨g7,0,none⟩)),(13,.int .i64 i)] ?_
       refine leR_up (k':=[]) (by rfl) ?_
       refine Lj (u2,a,i) ⟨(hfin273 _ (Option.some.inj hb_273).symm).symm,H⟩
     rintro ⟨u2,a,i⟩ wj257 ⟨hy257,H⟩
     try dsimp only at hy257
     try dsimp only at H
     rw [hy257] at hf
     try dsimp only at hf
     refine Sg 9 [.op [1,1,1,1,1,0,1,0,1,1,1,1,1] 2,.co [1,1,1,1,1,1]] [(0,.slice A0_0 dst.length c0_0),(3,.bool neg1),(4,.bool append_),(10,.slice none 0 0),(11,.string ⟨([]:List UInt8).toArray⟩),(12,.pointer (some ⟨g7,0,none⟩)),(13,.int .i64 (IntKind.i64.wrap (i - 1))),(60,.int .i64 (IntKind.i64.wrap (i - 1))),(61,.int .u64 (u2.toNat:Int))] ?_
     obtain ⟨c1,h_c1,hf⟩:=bindE hf
     refine st (Ts (some 62) 9 ([48,49,50,51,52,53,54,55,56,57,97,98,99,100,101,102,103,104,105,106,107,108,109,110,111,112,113,114,115,116,117,118,119,120,121,122]:List UInt8) .u64 (u2.toNat:Int) c1 h_c1 ?_)
     obtain ⟨x_1,h_x_1,hf⟩:=bindE hf
     obtain ⟨hc279,hf⟩:=chkE hf
     obtain ⟨i0280,i1280,ix280⟩:=idx_some h_x_1
     refine st (idxAS (some 63) 94 65 5 g7 .i64 (IntKind.i64.wrap (i - 1)) (by kernel_rfl) (by kernel_rfl) i0280 (of_decide_eq_true hc279) ?_)
     refine st (stAS fU8 none 5 1 g7 ((IntKind.i64.wrap (i - 1)).toNat) c1 a 94 H rfl (by kernel_rfl) (by kernel_rfl) rfl (List.getElem?_eq_some_iff.1 ix280).1 ?_)
     intro w281 H
     refine Sg 6 [.co [1,1,1,1,1,1,0,1],.co [1,1,1,1,1,1,1]] [(0,.slice A0_0 dst.length c0_0),(4,.bool append_),(10,.slice none 0 0),(11,.string ⟨([]:List UInt8).toArray⟩),(12,.pointer (some ⟨g7,0,none⟩)),(13,.int .i64 (IntKind.i64.wrap (i - 1))),(89,.bool neg1)] ?_
     rcases condT hf with ⟨hb302,hf⟩ | ⟨hb302,hf⟩
     ·rw [hb302]
      refine Sg 9 [.op [1,1,1,1,1,1,0,1,0,1] 1,.co [1,1,1,1,1,1,1]] [(0,.slice A0_0 dst.length c0_0),(4,.bool append_),(10,.slice none 0 0),(11,.string ⟨([]:List UInt8).toArray⟩),(12,.pointer (some ⟨g7,0,none⟩)),(13,.int .i64 (IntKind.i64.wrap ((IntKind.i64.wrap (i - 1)) - 1))),(92,.int .i64 (IntKind.i64.wrap ((IntKind.i64.wrap (i - 1)) - 1)))] ?_
      obtain ⟨x_2,h_x_2,hf⟩:=bindE hf
      obtain ⟨hc303,hf⟩:=chkE hf
      obtain ⟨i0304,i1304,ix304⟩:=idx_some h_x_2
      refine st (idxAS (some 93) 94 65 5 g7 .i64 (IntKind.i64.wrap ((IntKind.i64.wrap (i - 1)) - 1)) (by kernel_rfl) (by kernel_rfl) i0304 (of_decide_eq_true hc303) ?_)
      refine st (stAS fU8 none 5 1 g7 ((IntKind.i64.wrap ((IntKind.i64.wrap (i - 1)) - 1)).toNat) (45:UInt8) (a.set ((IntKind.i64.wrap (i - 1)).toNat) c1) 94 H rfl (by kernel_rfl) (by kernel_rfl) rfl (List.getElem?_eq_some_iff.1 ix304).1 ?_)
      intro w305 H
      refine Sg 6 [.co [1,1,1,1,1,1,1,0,1],.co [1,1,1,1,1,1,1,1]] [(0,.slice A0_0 dst.length c0_0),(10,.slice none 0 0),(11,.string ⟨([]:List UInt8).toArray⟩),(12,.pointer (some ⟨g7,0,none⟩)),(13,.int .i64 (IntKind.i64.wrap ((IntKind.i64.wrap (i - 1)) - 1))),(94,.bool append_)] ?_
      rcases condT hf with ⟨hb306,hf⟩ | ⟨hb306,hf⟩
      ·rw [hb306]
       refine Sg 5 [.op [1,1,1,1,1,1,1,0,1,0,0] 2,.co [1,1,1,1,1,1,1,0,1,0,1],.co [1,1,1,1,1,1,1,1]] [(11,.string ⟨([]:List UInt8).toArray⟩),(12,.pointer (some ⟨g7,0,none⟩)),(95,.slice A0_0 dst.length c0_0),(96,.int .i64 (IntKind.i64.wrap ((IntKind.i64.wrap (i - 1)) - 1)))] ?_
       obtain ⟨hc308,hf⟩:=chkE hf
       obtain ⟨mf307,hsub307,hbf307,H⟩:=H.fixB 1 rfl
       have hN307:=of_decide_eq_true hc308
       have hA307:=SlI.ofArr hbf307 (by rw [hN307]; decide)
       obtain ⟨y_,h_y_,hf⟩:=bindE hf
       refine st (sliAS (some 97) 94 65 5 ⟨g7,0,none⟩ ((a.set ((IntKind.i64.wrap (i - 1)).toNat) c1).set ((IntKind.i64.wrap ((IntKind.i64.wrap (i - 1)) - 1)).toNat) (45:UInt8)) y_ (some (.int .i64 (IntKind.i64.wrap ((IntKind.i64.wrap (i - 1)) - 1)))) none (IntKind.i64.wrap ((IntKind.i64.wrap (i - 1)) - 1)) (((a.set ((IntKind.i64.wrap (i - 1)).toNat) c1).set ((IntKind.i64.wrap ((IntKind.i64.wrap (i - 1)) - 1)).toNat) (45:UInt8)).length:Int) hA307 hN307 (by kernel_rfl) (by kernel_rfl) (.inr ⟨_,rfl⟩) (.inl ⟨rfl,rfl⟩) h_y_ ?_)
       intro A309 c309 hs309
       obtain ⟨xs310,hr310,hx310⟩:=hs309.cs
       obtain ⟨b,h_b,hf⟩:=bindE hf
       refine st (appS (r:=rU8) (some 98) 25 5 1 (.int .u8 0) 25 0 A0_0 A309 c0_0 y_.length c309 dst y_ b _ H rfl ⟨Tryd.underlying25,by kernel_rfl⟩ rfl (by decide) (by kernel_rfl) (hx310.cs H.has) hr310 rfl h_b (by decide) (by decide) ?_)
       intro A311 c311 w311 H
       refine Sg 2 [.co [1,1,1,1,1,1,1,0,1,0,1],.co [1,1,1,1,1,1,1,1]] [(10,.slice A311 b.length c311),(11,.string ⟨([]:List UInt8).toArray⟩)] ?_
       refine Rr [10,11] [.slice A311 b.length c311,.string ⟨([]:List UInt8).toArray⟩] ?_
       obtain rfl:(b,([]:List UInt8))=r:=(Option.some.inj hf)
       exact ⟨_,rfl,A311,c311,mf307,rfl,H,(Nat.le_of_ble_eq_true rfl)⟩
      ·rw [hb306]
       refine Sg 5 [.op [1,1,1,1,1,1,1,1,0] 1,.co [1,1,1,1,1,1,1,1,1]] [(10,.slice none 0 0),(12,.pointer (some ⟨g7,0,none⟩)),(99,.int .i64 (IntKind.i64.wrap ((IntKind.i64.wrap (i - 1)) - 1)))] ?_
       obtain ⟨hc313,hf⟩:=chkE hf
       obtain ⟨mf312,hsub312,hbf312,H⟩:=H.fixB 1 rfl
       have hN312:=of_decide_eq_true hc313
       have hA312:=SlI.ofArr hbf312 (by rw [hN312]; decide)
       obtain ⟨y_1,h_y_1,hf⟩:=bindE hf
       refine st (sliAS (some 100) 94 65 5 ⟨g7,0,none⟩ ((a.set ((IntKind.i64.wrap (i - 1)).toNat) c1).set ((IntKind.i64.wrap ((IntKind.i64.wrap (i - 1)) - 1)).toNat) (45:UInt8)) y_1 (some (.int .i64 (IntKind.i64.wrap ((IntKind.i64.wrap (i - 1)) - 1)))) none (IntKind.i64.wrap ((IntKind.i64.wrap (i - 1)) - 1)) (((a.set ((IntKind.i64.wrap (i - 1)).toNat) c1).set ((IntKind.i64.wrap ((IntKind.i64.wrap (i - 1)) - 1)).toNat) (45:UInt8)).length:Int) hA312 hN312 (by kernel_rfl) (by kernel_rfl) (.inr ⟨_,rfl⟩) (.inl ⟨rfl,rfl⟩) h_y_1 ?_)
       intro A314 c314 hs314
       refine st (b2sS (some 101) 25 9 5 A314 c314 y_1 Tryd.underlying25 Tryd.underlying5 Tryd.underlying9 (by kernel_rfl) (hs314.bytes.cs H.has) ?_)
       have hl315:y_1.length ≤ 9223372036854775807:=hs314.bound
       refine Sg 2 [.co [1,1,1,1,1,1,1,1,1]] [(10,.slice none 0 0),(11,.string ⟨y_1.toArray⟩)] ?_
       have H:=H.nilR rU8 5
       refine Rr [10,11] [.slice none 0 0,.string ⟨y_1.toArray⟩] ?_
       obtain rfl:([],y_1)=r:=(Option.some.inj hf)
       exact ⟨_,rfl,none,0,mf312,rfl,(St.takeN 1 H),hl315⟩
     ·rw [hb302]
      refine Sg 7 [.co [1,1,1,1,1,1,1,0,1],.co [1,1,1,1,1,1,1,1]] [(0,.slice A0_0 dst.length c0_0),(10,.slice none 0 0),(11,.string ⟨([]:List UInt8).toArray⟩),(12,.pointer (some ⟨g7,0,none⟩)),(13,.int .i64 (IntKind.i64.wrap (i - 1))),(94,.bool append_)] ?_
      rcases condT hf with ⟨hb322,hf⟩ | ⟨hb322,hf⟩
      ·rw [hb322]
       refine Sg 5 [.op [1,1,1,1,1,1,1,0,1,0,0] 2,.co [1,1,1,1,1,1,1,0,1,0,1],.co [1,1,1,1,1,1,1,1]] [(11,.string ⟨([]:List UInt8).toArray⟩),(12,.pointer (some ⟨g7,0,none⟩)),(95,.slice A0_0 dst.length c0_0),(96,.int .i64 (IntKind.i64.wrap (i - 1)))] ?_
       obtain ⟨hc324,hf⟩:=chkE hf
       obtain ⟨mf323,hsub323,hbf323,H⟩:=H.fixB 1 rfl
       have hN323:=of_decide_eq_true hc324
       have hA323:=SlI.ofArr hbf323 (by rw [hN323]; decide)
       obtain ⟨y_2,h_y_2,hf⟩:=bindE hf
       refine st (sliAS (some 97) 94 65 5 ⟨g7,0,none⟩ (a.set ((IntKind.i64.wrap (i - 1)).toNat) c1) y_2 (some (.int .i64 (IntKind.i64.wrap (i - 1)))) none (IntKind.i64.wrap (i - 1)) ((a.set ((IntKind.i64.wrap (i - 1)).toNat) c1).length:Int) hA323 hN323 (by kernel_rfl) (by kernel_rfl) (.inr ⟨_,rfl⟩) (.inl ⟨rfl,rfl⟩) h_y_2 ?_)
       intro A325 c325 hs325
       obtain ⟨xs326,hr326,hx326⟩:=hs325.cs
       obtain ⟨b1,h_b1,hf⟩:=bindE hf
       refine st (appS (r:=rU8) (some 98) 25 5 1 (.int .u8 0) 25 0 A0_0 A325 c0_0 y_2.length c325 dst y_2 b1 _ H rfl ⟨Tryd.underlying25,by kernel_rfl⟩ rfl (by decide) (by kernel_rfl) (hx326.cs H.has) hr326 rfl h_b1 (by decide) (by decide) ?_)
       intro A327 c327 w327 H
       refine Sg 2 [.co [1,1,1,1,1,1,1,0,1,0,1],.co [1,1,1,1,1,1,1,1]] [(10,.slice A327 b1.length c327),(11,.string ⟨([]:List UInt8).toArray⟩)] ?_
       refine Rr [10,11] [.slice A327 b1.length c327,.string ⟨([]:List UInt8).toArray⟩] ?_
       obtain rfl:(b1,([]:List UInt8))=r:=(Option.some.inj hf)
       exact ⟨_,rfl,A327,c327,mf323,rfl,H,(Nat.le_of_ble_eq_true rfl)⟩
      ·rw [hb322]
       refine Sg 5 [.op [1,1,1,1,1,1,1,1,0] 1,.co [1,1,1,1,1,1,1,1,1]] [(10,.slice none 0 0),(12,.pointer (some ⟨g7,0,none⟩)),(99,.int .i64 (IntKind.i64.wrap (i - 1)))] ?_
       replace H:St w F m m [blkI g7 ((a.set ((IntKind.i64.wrap (i - 1)).toNat) c1).map fU8) 94] w281:=(H.drop 0 rfl)
       obtain ⟨hc329,hf⟩:=chkE hf
       obtain ⟨mf328,hsub328,hbf328,H⟩:=H.fixB 0 rfl
       have hN328:=of_decide_eq_true hc329
       have hA328:=SlI.ofArr hbf328 (by rw [hN328]; decide)
       obtain ⟨y_3,h_y_3,hf⟩:=bindE hf
       refine st (sliAS (some 100) 94 65 5 ⟨g7,0,none⟩ (a.set ((IntKind.i64.wrap (i - 1)).toNat) c1) y_3 (some (.int .i64 (IntKind.i64.wrap (i - 1)))) none (IntKind.i64.wrap (i - 1)) ((a.set ((IntKind.i64.wrap (i - 1)).toNat) c1).length:Int) hA328 hN328 (by kernel_rfl) (by kernel_rfl) (.inr ⟨_,rfl⟩) (.inl ⟨rfl,rfl⟩) h_y_3 ?_)
       intro A330 c330 hs330
       refine st (b2sS (some 101) 25 9 5 A330 c330 y_3 Tryd.underlying25 Tryd.underlying5 Tryd.underlying9 (by kernel_rfl) (hs330.bytes.cs H.has) ?_)
       have hl331:y_3.length ≤ 9223372036854775807:=hs330.bound
       refine Sg 2 [.co [1,1,1,1,1,1,1,1,1]] [(10,.slice none 0 0),(11,.string ⟨y_3.toArray⟩)] ?_
       have H:=H.nilR rU8 5
       refine Rr [10,11] [.slice none 0 0,.string ⟨y_3.toArray⟩] ?_
       obtain rfl:([],y_3)=r:=(Option.some.inj hf)
       exact ⟨_,rfl,none,0,mf328,rfl,H,hl331⟩
    ·rw [hb230]
     refine Sg 8 [.co [1,1,1,1,1,0,1,1,1,0],.co [1,1,1,1,1,0,1,1,1,1],.co [1,1,1,1,1,1]] [(0,.slice A0_0 dst.length c0_0),(1,.int .u64 (u1.toNat:Int)),(3,.bool neg1),(4,.bool append_),(10,.slice none 0 0),(11,.string ⟨([]:List UInt8).toArray⟩),(12,.pointer (some ⟨g7,0,none⟩)),(13,.int .i64 65),(17,.int .u64 (IntKind.u64.wrap base))] ?_
     rw [q64_wrap base]
     obtain ⟨y363,hp363,hf⟩:=bindE hf
     refine joinR 0 (fun (x:UInt64 × (List UInt8) × Int) => [(0,.slice A0_0 dst.length c0_0),(1,.int .u64 (x.1.toNat:Int)),(3,.bool neg1),(4,.bool append_),(10,.slice none 0 0),(11,.string ⟨([]:List UInt8).toArray⟩),(12,.pointer (some ⟨g7,0,none⟩)),(13,.int .i64 x.2.2)]) (fun (x:UInt64 × (List UInt8) × Int) (wj363:World) => y363=(x.1,x.2.1,x.2.2) ∧ St w F m m [rowI rU8 5 A0_0 c0_0 dst,blkI g7 (x.2.1.map fU8) 94] wj363) (by kernel_rfl) ?_ ?_
     ·refine Sg 1 [.co [1,1,1,1,1,0,1,1,1,0,0],.bl 2,.le 0,.co [1,1,1,1,1,0,1,1,1,1],.co [1,1,1,1,1,1]] [(0,.slice A0_0 dst.length c0_0),(1,.int .u64 (u1.toNat:Int)),(3,.bool neg1),(4,.bool append_),(10,.slice none 0 0),(11,.string ⟨([]:List UInt8).toArray⟩),(12,.pointer (some ⟨g7,0,none⟩)),(13,.int .i64 65),(17,.int .u64 ((UInt64.ofInt base).toNat:Int))] ?_
      obtain ⟨nn382,hR382⟩:=loopO_iff.1 hp363
      refine Lp 1 (fun (x:Nat × UInt64 × (List UInt8) × Int) => [(0,.slice A0_0 dst.length c0_0),(1,.int .u64 (x.2.1.toNat:Int)),(3,.bool neg1),(4,.bool append_),(10,.slice none 0 0),(11,.string ⟨([]:List UInt8).toArray⟩),(12,.pointer (some ⟨g7,0,none⟩)),(13,.int .i64 x.2.2.2),(17,.int .u64 ((UInt64.ofInt base).toNat:Int))]) (fun (x:Nat × UInt64 × (List UInt8) × Int) (wl382:World) => iter (fun s => internal_strconv_formatBits_l2 base s.1 s.2.1 s.2.2) x.1 (x.2.1,x.2.2.1,x.2.2.2)=some y363 ∧ St w F m m [rowI rU8 5 A0_0 c0_0 dst,blkI g7 (x.2.2.1.map fU8) 94] wl382) (fun (x:Nat × UInt64 × (List UInt8) × Int) => x.1) (nn382,u1,(List.replicate 65 (0:UInt8)),65) ?_ ?_
      ·exact ⟨hR382,H⟩
      rintro ⟨n382,u3,a1,i1⟩ wl382 ⟨hR382,H⟩
      try dsimp only at hR382
      try dsimp only at H
      obtain ⟨nk382,q382,rfl,hb_382,hnx382,hfin382⟩:=iterE hR382
      replace hb_382:internal_strconv_formatBits_l2 base u3 a1 i1=some q382:=hb_382
      unfold internal_strconv_formatBits_l2 at hb_382
      refine Sg 7 [.co [1,1,1,1,1,0,1,1,1,0,0,0,0,1],.co [1,1,1,1,1,0,1,1,1,0,0,0,1],.le 1,.bl 2,.le 0,.co [1,1,1,1,1,0,1,1,1,1],.co [1,1,1,1,1,1]] [(0,.slice A0_0 dst.length c0_0),(1,.int .u64 (u3.toNat:Int)),(3,.bool neg1),(4,.bool append_),(10,.slice none 0 0),(11,.string ⟨([]:List UInt8).toArray⟩),(12,.pointer (some ⟨g7,0,none⟩)),(13,.int .i64 i1),(17,.int .u64 ((UInt64.ofInt base).toNat:Int)),(68,.bool (decide ((u3.toNat:Int) ≥ ((UInt64.ofInt base).toNat:Int))))] ?_
      rcases condT hb_382 with ⟨hb384,hb_382⟩ | ⟨hb384,hb_382⟩
      ·rw [hb384]
       have p384:=of_decide_eq_true hb384
       refine Sg 13 [.op [1,1,1,1,1,0,1,1,1,0,0,0,1,0,1,0] 2,.co [1,1,1,1,1,0,1,1,1,0,0,0,1,0,1,1],.bl 3,.le 1,.bl 2,.le 0,.co [1,1,1,1,1,0,1,1,1,1],.co [1,1,1,1,1,1]] [(0,.slice A0_0 dst.length c0_0),(1,.int .u64 (u3.toNat:Int)),(3,.bool neg1),(4,.bool append_),(10,.slice none 0 0),(11,.string ⟨([]:List UInt8).toArray⟩),(12,.pointer (some ⟨g7,0,none⟩)),(13,.int .i64 (IntKind.i64.wrap (i1 - 1))),(17,.int .u64 ((UInt64.ofInt base).toNat:Int)),(71,.int .u64 (u3.toNat:Int)),(72,.int .u64 ((UInt64.ofInt base).toNat:Int))] ?_
       obtain ⟨hc385,hb_382⟩:=chkE hb_382
       refine st (runR (by kernel_rfl:fetch _ _ _ _ _=some ((some 73),vS (Op.intDiv .quo .u64 (u3.toNat:Int) ((UInt64.ofInt base).toNat:Int)))) (quo64_run u3 (UInt64.ofInt base) (of_decide_eq_true hc385)) ?_)
       refine Sg 10 [.op [1,1,1,1,1,0,1,1,1,0,0,0,1,0,1,1,0] 6,.co [1,1,1,1,1,0,1,1,1,0,0,0,1,0,1,1,1],.bl 3,.le 1,.bl 2,.le 0,.co [1,1,1,1,1,0,1,1,1,1],.co [1,1,1,1,1,1]] [(0,.slice A0_0 dst.length c0_0),(3,.bool neg1),(4,.bool append_),(10,.slice none 0 0),(11,.string ⟨([]:List UInt8).toArray⟩),(12,.pointer (some ⟨g7,0,none⟩)),(13,.int .i64 (IntKind.i64.wrap (i1 - 1))),(17,.int .u64 ((UInt64.ofInt base).toNat:Int)),(18,.int .u64 ((u3 / (UInt64.ofInt base)).toNat:Int)),(74,.int .i64 (IntKind.i64.wrap (i1 - 1))),(79,.int .u64 (IntKind.u64.wrap ((u3.toNat:Int) - (IntKind.u64.wrap (((u3 / (UInt64.ofInt base)).toNat:Int) * ((UInt64.ofInt base).toNat:Int))))))] ?_
       rw [q64_mul (u3 / (UInt64.ofInt base)) (UInt64.ofInt base) ((u3 / (UInt64.ofInt base)).toNat:Int) ((UInt64.ofInt base).toNat:Int) (by rfl) (by rfl)]
       rw [q64_sub u3 ((u3 / (UInt64.ofInt base)) * (UInt64.ofInt base)) (u3.toNat:Int) (((u3 / (UInt64.ofInt base)) * (UInt64.ofInt base)).toNat:Int) (by rfl) (by rfl)]
       obtain ⟨c2,h_c2,hb_382⟩:=bindE hb_382
       refine st (Ts (some 80) 9 ([48,49,50,51,52,53,54,55,56,57,97,98,99,100,101,102,103,104,105,106,107,108,109,110,111,112,113,114,115,116,117,118,119,120,121,122]:List UInt8) .u64 ((u3 - ((u3 / (UInt64.ofInt base)) * (UInt64.ofInt base))).toNat:Int) c2 h_c2 ?_)
       obtain ⟨x_3,h_x_3,hb_382⟩:=bindE hb_382
       obtain ⟨hc386,hb_382⟩:=chkE hb_382
       obtain ⟨i0387,i1387,ix387⟩:=idx_some h_x_3
       refine st (idxAS (some 81) 94 65 5 g7 .i64 (IntKind.i64.wrap (i1 - 1)) (by kernel_rfl) (by kernel_rfl) i0387 (of_decide_eq_true hc386) ?_)
       refine st (stAS fU8 none 5 1 g7 ((IntKind.i64.wrap (i1 - 1)).toNat) c2 a1 94 H rfl (by kernel_rfl) (by kernel_rfl) rfl (List.getElem?_eq_some_iff.1 ix387).1 ?_)
       intro w388 H
       refine Sg 6 [.le 1,.bl 2,.le 0,.co [1,1,1,1,1,0,1,1,1,1],.co [1,1,1,1,1,1]] [(0,.slice A0_0 dst.length c0_0),(1,.int .u64 ((u3 / (UInt64.ofInt base)).toNat:Int)),(3,.bool neg1),(4,.bool append_),(10,.slice none 0 0),(11,.string ⟨([]:List UInt8).toArray⟩),(12,.pointer (some ⟨g7,0,none⟩)),(13,.int .i64 (IntKind.i64.wrap (i1 - 1))),(17,.int .u64 ((UInt64.ofInt base).toNat:Int))] ?_
       refine Lq (nk382,(u3 / (UInt64.ofInt base)),(a1.set ((IntKind.i64.wrap (i1 - 1)).toNat) c2),(IntKind.i64.wrap (i1 - 1))) (Nat.lt_succ_self _) ⟨hnx382 _ (Option.some.inj hb_382).symm,H⟩
      ·rw [hb384]
       have p384:=of_decide_eq_false hb384
       refine Sg 2 [.le 0,.co [1,1,1,1,1,0,1,1,1,1],.co [1,1,1,1,1,1]] [(0,.slice A0_0 dst.length c0_0),(1,.int .u64 (u3.toNat:Int)),(3,.bool neg1),(4,.bool append_),(10,.slice none 0 0),(11,.string ⟨([]:List UInt8).toArray⟩),(12,.pointer (some ⟨g7,0,none⟩)),(13,.int .i64 i1)] ?_
       refine leR_up (k':=[]) (by rfl) ?_
       refine Lj (u3,a1,i1) ⟨(hfin382 _ (Option.some.inj hb_382).symm).symm,H⟩
     rintro ⟨u3,a1,i1⟩ wj363 ⟨hy363,H⟩
     try dsimp only at hy363
     try dsimp only at H
     rw [hy363] at hf
     try dsimp only at hf
     refine Sg 9 [.op [1,1,1,1,1,0,1,1,1,1,1] 2,.co [1,1,1,1,1,1]] [(0,.slice A0_0 dst.length c0_0),(3,.bool neg1),(4,.bool append_),(10,.slice none 0 0),(11,.string ⟨([]:List UInt8).toArray⟩),(12,.pointer (some ⟨g7,0,none⟩)),(13,.int .i64 (IntKind.i64.wrap (i1 - 1))),(85,.int .i64 (IntKind.i64.wrap (i1 - 1))),(86,.int .u64 (u3.toNat:Int))] ?_
     obtain ⟨c3,h_c3,hf⟩:=bindE hf
     refine st (Ts (some 87) 9 ([48,49,50,51,52,53,54,55,56,57,97,98,99,100,101,102,103,104,105,106,107,108,109,110,111,112,113,114,115,116,117,118,119,120,121,122]:List UInt8) .u64 (u3.toNat:Int) c3 h_c3 ?_)
     obtain ⟨x_4,h_x_4,hf⟩:=bindE hf
     obtain ⟨hc389,hf⟩:=chkE hf
     obtain ⟨i0390,i1390,ix390⟩:=idx_some h_x_4
     refine st (idxAS (some 88) 94 65 5 g7 .i64 (IntKind.i64.wrap (i1 - 1)) (by kernel_rfl) (by kernel_rfl) i0390 (of_decide_eq_true hc389) ?_)
     refine st (stAS fU8 none 5 1 g7 ((IntKind.i64.wrap (i1 - 1)).toNat) c3 a1 94 H rfl (by kernel_rfl) (by kernel_rfl) rfl (List.getElem?_eq_some_iff.1 ix390).1 ?_)
     intro w391 H
     refine Sg 6 [.co [1,1,1,1,1,1,0,1],.co [1,1,1,1,1,1,1]] [(0,.slice A0_0 dst.length c0_0),(4,.bool append_),(10,.slice none 0 0),(11,.string ⟨([]:List UInt8).toArray⟩),(12,.pointer (some ⟨g7,0,none⟩)),(13,.int .i64 (IntKind.i64.wrap (i1 - 1))),(89,.bool neg1)] ?_
     rcases condT hf with ⟨hb392,hf⟩ | ⟨hb392,hf⟩
     ·rw [hb392]
      refine Sg 9 [.op [1,1,1,1,1,1,0,1,0,1] 1,.co [1,1,1,1,1,1,1]] [(0,.slice A0_0 dst.length c0_0),(4,.bool append_),(10,.slice none 0 0),(11,.string ⟨([]:List UInt8).toArray⟩),(12,.pointer (some ⟨g7,0,none⟩)),(13,.int .i64 (IntKind.i64.wrap ((IntKind.i64.wrap (i1 - 1)) - 1))),(92,.int .i64 (IntKind.i64.wrap ((IntKind.i64.wrap (i1 - 1)) - 1)))] ?_
      obtain ⟨x_5,h_x_5,hf⟩:=bindE hf
      obtain ⟨hc393,hf⟩:=chkE hf
      obtain ⟨i0394,i1394,ix394⟩:=idx_some h_x_5
      refine st (idxAS (some 93) 94 65 5 g7 .i64 (IntKind.i64.wrap ((IntKind.i64.wrap (i1 - 1)) - 1)) (by kernel_rfl) (by kernel_rfl) i0394 (of_decide_eq_true hc393) ?_)
      refine st (stAS fU8 none 5 1 g7 ((IntKind.i64.wrap ((IntKind.i64.wrap (i1 - 1)) - 1)).toNat) (45:UInt8) (a1.set ((IntKind.i64.wrap (i1 - 1)).toNat) c3) 94 H rfl (by kernel_rfl) (by kernel_rfl) rfl (List.getElem?_eq_some_iff.1 ix394).1 ?_)
      intro w395 H
      refine Sg 6 [.co [1,1,1,1,1,1,1,0,1],.co [1,1,1,1,1,1,1,1]] [(0,.slice A0_0 dst.length c0_0),(10,.slice none 0 0),(11,.string ⟨([]:List UInt8).toArray⟩),(12,.pointer (some ⟨g7,0,none⟩)),(13,.int .i64 (IntKind.i64.wrap ((IntKind.i64.wrap (i1 - 1)) - 1))),(94,.bool append_)] ?_
      rcases condT hf with ⟨hb402,hf⟩ | ⟨hb402,hf⟩
      ·rw [hb402]
       refine Sg 5 [.op [1,1,1,1,1,1,1,0,1,0,0] 2,.co [1,1,1,1,1,1,1,0,1,0,1],.co [1,1,1,1,1,1,1,1]] [(11,.string ⟨([]:List UInt8).toArray⟩),(12,.pointer (some ⟨g7,0,none⟩)),(95,.slice A0_0 dst.length c0_0),(96,.int .i64 (IntKind.i64.wrap ((IntKind.i64.wrap (i1 - 1)) - 1)))] ?_
       obtain ⟨hc404,hf⟩:=chkE hf
       obtain ⟨mf403,hsub403,hbf403,H⟩:=H.fixB 1 rfl
       have hN403:=of_decide_eq_true hc404
       have hA403:=SlI.ofArr hbf403 (by rw [hN403]; decide)
       obtain ⟨y_4,h_y_4,hf⟩:=bindE hf
       refine st (sliAS (some 97) 94 65 5 ⟨g7,0,none⟩ ((a1.set ((IntKind.i64.wrap (i1 - 1)).toNat) c3).set ((IntKind.i64.wrap ((IntKind.i64.wrap (i1 - 1)) - 1)).toNat) (45:UInt8)) y_4 (some (.int .i64 (IntKind.i64.wrap ((IntKind.i64.wrap (i1 - 1)) - 1)))) none (IntKind.i64.wrap ((IntKind.i64.wrap (i1 - 1)) - 1)) (((a1.set ((IntKind.i64.wrap (i1 - 1)).toNat) c3).set ((IntKind.i64.wrap ((IntKind.i64.wrap (i1 - 1)) - 1)).toNat) (45:UInt8)).length:Int) hA403 hN403 (by kernel_rfl) (by kernel_rfl) (.inr ⟨_,rfl⟩) (.inl ⟨rfl,rfl⟩) h_y_4 ?_)
       intro A405 c405 hs405
       obtain ⟨xs406,hr406,hx406⟩:=hs405.cs
       obtain ⟨b2,h_b2,hf⟩:=bindE hf
       refine st (appS (r:=rU8) (some 98) 25 5 1 (.int .u8 0) 25 0 A0_0 A405 c0_0 y_4.length c405 dst y_4 b2 _ H rfl ⟨Tryd.underlying25,by kernel_rfl⟩ rfl (by decide) (by kernel_rfl) (hx406.cs H.has) hr406 rfl h_b2 (by decide) (by decide) ?_)
       intro A407 c407 w407 H
       refine Sg 2 [.co [1,1,1,1,1,1,1,0,1,0,1],.co [1,1,1,1,1,1,1,1]] [(10,.slice A407 b2.length c407),(11,.string ⟨([]:List UInt8).toArray⟩)] ?_
       refine Rr [10,11] [.slice A407 b2.length c407,.string ⟨([]:List UInt8).toArray⟩] ?_
       obtain rfl:(b2,([]:List UInt8))=r:=(Option.some.inj hf)
       exact ⟨_,rfl,A407,c407,mf403,rfl,H,(Nat.le_of_ble_eq_true rfl)⟩
      ·rw [hb402]
       refine Sg 5 [.op [1,1,1,1,1,1,1,1,0] 1,.co [1,1,1,1,1,1,1,1,1]] [(10,.slice none 0 0),(12,.pointer (some ⟨g7,0,none⟩)),(99,.int .i64 (IntKind.i64.wrap ((IntKind.i64.wrap (i1 - 1)) - 1)))] ?_
       obtain ⟨hc409,hf⟩:=chkE hf
       obtain ⟨mf408,hsub408,hbf408,H⟩:=H.fixB 1 rfl
       have hN408:=of_decide_eq_true hc409
       have hA408:=SlI.ofArr hbf408 (by rw [hN408]; decide)
       obtain ⟨y_5,h_y_5,hf⟩:=bindE hf
       refine st (sliAS (some 100) 94 65 5 ⟨g7,0,none⟩ ((a1.set ((IntKind.i64.wrap (i1 - 1)).toNat) c3).set ((IntKind.i64.wrap ((IntKind.i64.wrap (i1 - 1)) - 1)).toNat) (45:UInt8)) y_5 (some (.int .i64 (IntKind.i64.wrap ((IntKind.i64.wrap (i1 - 1)) - 1)))) none (IntKind.i64.wrap ((IntKind.i64.wrap (i1 - 1)) - 1)) (((a1.set ((IntKind.i64.wrap (i1 - 1)).toNat) c3).set ((IntKind.i64.wrap ((IntKind.i64.wrap (i1 - 1)) - 1)).toNat) (45:UInt8)).length:Int) hA408 hN408 (by kernel_rfl) (by kernel_rfl) (.inr ⟨_,rfl⟩) (.inl ⟨rfl,rfl⟩) h_y_5 ?_)
       intro A410 c410 hs410
       refine st (b2sS (some 101) 25 9 5 A410 c410 y_5 Tryd.underlying25 Tryd.underlying5 Tryd.underlying9 (by kernel_rfl) (hs410.bytes.cs H.has) ?_)
       have hl411:y_5.length ≤ 9223372036854775807:=hs410.bound
       refine Sg 2 [.co [1,1,1,1,1,1,1,1,1]] [(10,.slice none 0 0),(11,.string ⟨y_5.toArray⟩)] ?_
       have H:=H.nilR rU8 5
       refine Rr [10,11] [.slice none 0 0,.string ⟨y_5.toArray⟩] ?_
       obtain rfl:([],y_5)=r:=(Option.some.inj hf)
       exact ⟨_,rfl,none,0,mf408,rfl,(St.takeN 1 H),hl411⟩
     ·rw [hb392]
      refine Sg 7 [.co [1,1,1,1,1,1,1,0,1],.co [1,1,1,1,1,1,1,1]] [(0,.slice A0_0 dst.length c0_0),(10,.slice none 0 0),(11,.string ⟨([]:List UInt8).toArray⟩),(12,.pointer (some ⟨g7,0,none⟩)),(13,.int .i64 (IntKind.i64.wrap (i1 - 1))),(94,.bool append_)] ?_
      rcases condT hf with ⟨hb418,hf⟩ | ⟨hb418,hf⟩
      ·rw [hb418]
       refine Sg 5 [.op [1,1,1,1,1,1,1,0,1,0,0] 2,.co [1,1,1,1,1,1,1,0,1,0,1],.co [1,1,1,1,1,1,1,1]] [(11,.string ⟨([]:List UInt8).toArray⟩),(12,.pointer (some ⟨g7,0,none⟩)),(95,.slice A0_0 dst.length c0_0),(96,.int .i64 (IntKind.i64.wrap (i1 - 1)))] ?_
       obtain ⟨hc420,hf⟩:=chkE hf
       obtain ⟨mf419,hsub419,hbf419,H⟩:=H.fixB 1 rfl
       have hN419:=of_decide_eq_true hc420
       have hA419:=SlI.ofArr hbf419 (by rw [hN419]; decide)
       obtain ⟨y_6,h_y_6,hf⟩:=bindE hf
       refine st (sliAS (some 97) 94 65 5 ⟨g7,0,none⟩ (a1.set ((IntKind.i64.wrap (i1 - 1)).toNat) c3) y_6 (some (.int .i64 (IntKind.i64.wrap (i1 - 1)))) none (IntKind.i64.wrap (i1 - 1)) ((a1.set ((IntKind.i64.wrap (i1 - 1)).toNat) c3).length:Int) hA419 hN419 (by kernel_rfl) (by kernel_rfl) (.inr ⟨_,rfl⟩) (.inl ⟨rfl,rfl⟩) h_y_6 ?_)
       intro A421 c421 hs421
       obtain ⟨xs422,hr422,hx422⟩:=hs421.cs
       obtain ⟨b3,h_b3,hf⟩:=bindE hf
       refine st (appS (r:=rU8) (some 98) 25 5 1 (.int .u8 0) 25 0 A0_0 A421 c0_0 y_6.length c421 dst y_6 b3 _ H rfl ⟨Tryd.underlying25,by kernel_rfl⟩ rfl (by decide) (by kernel_rfl) (hx422.cs H.has) hr422 rfl h_b3 (by decide) (by decide) ?_)
       intro A423 c423 w423 H
       refine Sg 2 [.co [1,1,1,1,1,1,1,0,1,0,1],.co [1,1,1,1,1,1,1,1]] [(10,.slice A423 b3.length c423),(11,.string ⟨([]:List UInt8).toArray⟩)] ?_
       refine Rr [10,11] [.slice A423 b3.length c423,.string ⟨([]:List UInt8).toArray⟩] ?_
       obtain rfl:(b3,([]:List UInt8))=r:=(Option.some.inj hf)
       exact ⟨_,rfl,A423,c423,mf419,rfl,H,(Nat.le_of_ble_eq_true rfl)⟩
      ·rw [hb418]
       refine Sg 5 [.op [1,1,1,1,1,1,1,1,0] 1,.co [1,1,1,1,1,1,1,1,1]] [(10,.slice none 0 0),(12,.pointer (some ⟨g7,0,none⟩)),(99,.int .i64 (IntKind.i64.wrap (i1 - 1)))] ?_
       replace H:St w F m m [blkI g7 ((a1.set ((IntKind.i64.wrap (i1 - 1)).toNat) c3).map fU8) 94] w391:=(H.drop 0 rfl)
       obtain ⟨hc425,hf⟩:=chkE hf
       obtain ⟨mf424,hsub424,hbf424,H⟩:=H.fixB 0 rfl
       have hN424:=of_decide_eq_true hc425
       have hA424:=SlI.ofArr hbf424 (by rw [hN424]; decide)
       obtain ⟨y_7,h_y_7,hf⟩:=bindE hf
       refine st (sliAS (some 100) 94 65 5 ⟨g7,0,none⟩ (a1.set ((IntKind.i64.wrap (i1 - 1)).toNat) c3) y_7 (some (.int .i64 (IntKind.i64.wrap (i1 - 1)))) none (IntKind.i64.wrap (i1 - 1)) ((a1.set ((IntKind.i64.wrap (i1 - 1)).toNat) c3).length:Int) hA424 hN424 (by kernel_rfl) (by kernel_rfl) (.inr ⟨_,rfl⟩) (.inl ⟨rfl,rfl⟩) h_y_7 ?_)
       intro A426 c426 hs426
       refine st (b2sS (some 101) 25 9 5 A426 c426 y_7 Tryd.underlying25 Tryd.underlying5 Tryd.underlying9 (by kernel_rfl) (hs426.bytes.cs H.has) ?_)
       have hl427:y_7.length ≤ 9223372036854775807:=hs426.bound
       refine Sg 2 [.co [1,1,1,1,1,1,1,1,1]] [(10,.slice none 0 0),(11,.string ⟨y_7.toArray⟩)] ?_
       have H:=H.nilR rU8 5
       refine Rr [10,11] [.slice none 0 0,.string ⟨y_7.toArray⟩] ?_
       obtain rfl:([],y_7)=r:=(Option.some.inj hf)
       exact ⟨_,rfl,none,0,mf424,rfl,H,hl427⟩
theorem internal_strconv_AppendUint_c {m:Mem} {w:World} (hm:Has m w) (hG0:TabM m 0 (tab0.map fU64)) (hG2:TabM m 2 (tab2.map fU8)) (dst:(List UInt8)) (A0_0:Option Addr) (c0_0:Nat) (i:UInt64) (base:Int) {F:Nat → Prop} (hsep:Sep m w [rowI rU8 5 A0_0 c0_0 dst] F) (hF:∀ k,F k → m k=none) {r:(List UInt8)} (hf:internal_strconv_AppendUint dst i base=some r) :
  Calls Tryd.prog 52 #[.slice A0_0 dst.length c0_0,.int .u64 (i.toNat:Int),.int .i64 base] w fun e w' => ∃ v,e=.returned v ∧ ∃ Az_0:Option Addr,∃ cz_0:Nat,∃ m':Mem,v=.slice Az_0 r.length cz_0 ∧ St w F m m' [rowI rU8 5 Az_0 cz_0 r] w':=by
 unfold internal_strconv_AppendUint at hf
 have H:=St.start hm hsep hF
 refine Fc Tryd.func52 ?_
 refine Sg 10 [.co [1,0,1],.co [1,1]] [(0,.slice A0_0 dst.length c0_0),(1,.int .u64 (i.toNat:Int)),(2,.int .i64 base),(10,.bool (base == 10))] ?_
 rcases condT hf with ⟨hb17,hf⟩ | ⟨hb17,hf⟩
 ·rw [hb17]
  refine Sg 7 [.co [1,0,1,0,0,1],.co [1,0,1,0,1],.co [1,1]] [(0,.slice A0_0 dst.length c0_0),(1,.int .u64 (i.toNat:Int)),(12,.bool (decide ((i.toNat:Int) < 100)))] ?_
  rcases condT hf with ⟨hb18,hf⟩ | ⟨hb18,hf⟩
  ·rw [hb18]
   have p18:=of_decide_eq_true hb18
   refine Sg 6 [.op [1,0,1,0,0,1,0,0] 3,.co [1,0,1,0,0,1,0,1],.co [1,0,1,0,1],.co [1,1]] [(13,.slice A0_0 dst.length c0_0),(15,.int .i64 (IntKind.i64.wrap (i.toNat:Int)))] ?_
   replace H:St w F m m [rowI rU8 5 A0_0 c0_0 dst] w:=H
   obtain ⟨small,h_small,hf⟩:=bindE hf
   refine st (Cl (some 16) 53 #[.int .i64 (IntKind.i64.wrap (i.toNat:Int))] Tryd.call53 (internal_strconv_small_c H.has (IntKind.i64.wrap (i.toNat:Int)) h_small) ?_)
   rintro _ w19 ⟨rfl,hx19,hl19_0⟩
   replace H:=H.ex hx19
   obtain ⟨b,h_b,hf⟩:=bindE hf
   refine st (appstrS (some 17) 25 9 5 25 0 A0_0 c0_0 dst small b H rfl ⟨Tryd.underlying25,by kernel_rfl⟩ Tryd.underlying9 (by kernel_rfl) h_b ?_)
   intro A20 c20 w20 H
   refine Sg 2 [.co [1,0,1,0,0,1,0,1],.co [1,0,1,0,1],.co [1,1]] [(6,.slice A20 b.length c20)] ?_
   refine Rr [6] [.slice A20 b.length c20] ?_
   have hret:=(Option.some.inj hf)
   subst hret
   exact ⟨_,rfl,A20,c20,m,rfl,H⟩
  ·rw [hb18]
   have p18:=of_decide_eq_false hb18
   refine Sg 4 [.op [1,0,1,0,1,0] 0,.co [1,0,1,0,1,1],.co [1,1]] [(0,.slice A0_0 dst.length c0_0),(1,.int .u64 (i.toNat:Int))] ?_
   refine st (Nw (some 7) (fun g => .pointer (some ⟨g,0,none⟩)) [.int .u8 0,.int .u8 0,.int .u8 0,.int .u8 0,.int .u8 0,.int .u8 0,.int .u8 0,.int .u8 0,.int .u8 0,.int .u8 0,.int .u8 0,.int .u8 0,.int .u8 0,.int .u8 0,.int .u8 0,.int .u8 0,.int .u8 0,.int .u8 0,.int .u8 0,.int .u8 0,.int .u8 0,.int .u8 0,.int .u8 0,.int .u8 0] 86 H ?_)
   intro g21 w21 H
   replace H:=H.toArr 0 fU8 (List.replicate 24 (0:UInt8)) rfl (by kernel_rfl)
   refine Sg 4 [.op [1,0,1,0,1,1,0] 1,.co [1,0,1,0,1,1,1],.co [1,1]] [(0,.slice A0_0 dst.length c0_0),(1,.int .u64 (i.toNat:Int)),(7,.pointer (some ⟨g21,0,none⟩)),(18,.int .u64 (i.toNat:Int))] ?_
   obtain ⟨numDig,h_numDig,hf⟩:=bindE hf
   refine st (Cl (some 19) 54 #[.int .u64 (i.toNat:Int)] Tryd.call54 (internal_strconv_numDigits_c H.has hG0 i h_numDig) ?_)
   rintro _ w22 ⟨rfl,hx22⟩
   replace H:=H.ex hx22
   refine Sg 5 [.op [1,0,1,0,1,1,1,0] 1,.co [1,0,1,0,1,1,1,1],.co [1,1]] [(0,.slice A0_0 dst.length c0_0),(1,.int .u64 (i.toNat:Int)),(7,.pointer (some ⟨g21,0,none⟩)),(8,.int .i64 numDig),(20,.int .i64 numDig)] ?_
   replace H:St w F m m [blkI g21 ((List.replicate 24 (0:UInt8)).map fU8) 86,rowI rU8 5 A0_0 c0_0 dst] w22:=H
   obtain ⟨hc23,hf⟩:=chkE hf
   refine st (sliA0 (some 21) 86 24 5 g21 .i64 numDig (by kernel_rfl) (by kernel_rfl) (by kernel_rfl) (of_decide_eq_true hc23) ?_)
   refine Sg 1 [.op [1,0,1,0,1,1,1,0] 3,.co [1,0,1,0,1,1,1,1],.co [1,1]] [(0,.slice A0_0 dst.length c0_0),(7,.pointer (some ⟨g21,0,none⟩)),(8,.int .i64 numDig),(21,.slice (some ⟨g21,0,none⟩) numDig.toNat 24),(22,.int .u64 (i.toNat:Int))] ?_
   obtain ⟨format,h_format,hf⟩:=bindE hf
   obtain ⟨F24,hse24,hFn24,hcl24⟩:=St.call [blkI g21 ((List.replicate 24 (0:UInt8)).map fU8) 86] H
   refine st (Cl (some 23) 55 #[.slice (some ⟨g21,0,none⟩) numDig.toNat 24,.int .u64 (i.toNat:Int)] Tryd.call55 (internal_strconv_formatBase10_c H.has g21 (List.replicate 24 (0:UInt8)) numDig.toNat i hse24 hFn24 h_format) ?_)
   rintro _ w24 ⟨mk24,rfl,hS24⟩
   have hsub24:=hS24.sub
   replace H:=hcl24 _ _ _ hS24
   refine Sg 5 [.op [1,0,1,0,1,1,1,1,0] 2,.co [1,0,1,0,1,1,1,1,1],.co [1,1]] [(7,.pointer (some ⟨g21,0,none⟩)),(24,.slice A0_0 dst.length c0_0),(25,.int .i64 numDig)] ?_
   obtain ⟨hc25,hf⟩:=chkE hf
   refine st (sliA0 (some 26) 86 24 5 g21 .i64 numDig (by kernel_rfl) (by kernel_rfl) (by kernel_rfl) (of_decide_eq_true hc25) ?_)
   obtain ⟨hc26,hf⟩:=chkE hf
   obtain ⟨b1,h_b1,hf⟩:=bindE hf
   refine st (appS (r:=rU8) (some 27) 25 5 1 (.int .u8 0) 25 1 A0_0 (some ⟨g21,0,none⟩) c0_0 numDig.toNat 24 dst (format.take numDig.toNat) b1 _ H rfl ⟨Tryd.underlying25,by kernel_rfl⟩ rfl (by decide) (by kernel_rfl) (Cs.arr (H.blk 0 rfl) numDig.toNat) (Rows.u8.2 rfl) (of_decide_eq_true hc26) h_b1 (by decide) (by decide) ?_)
   intro A27 c27 w27 H
   refine Sg 2 [.co [1,0,1,0,1,1,1,1,1],.co [1,1]] [(6,.slice A27 b1.length c27)] ?_
   refine Rr [6] [.slice A27 b1.length c27] ?_
   have hret:=(Option.some.inj hf)
   subst hret
   exact ⟨_,rfl,A27,c27,mk24,rfl,(St.takeN 1 (H.pull 1 rfl))⟩
 ·rw [hb17]
  refine Sg 7 [.op [1,1,0] 3,.co [1,1,1]] [(29,.slice A0_0 dst.length c0_0),(30,.int .u64 (i.toNat:Int)),(31,.int .i64 base)] ?_
  obtain ⟨format1,h_format1,hf⟩:=bindE hf
  obtain ⟨F28,hse28,hFn28,hcl28⟩:=St.call [rowI rU8 5 A0_0 c0_0 dst] H
  refine st (Cl (some 32) 56 #[.slice A0_0 dst.length c0_0,.int .u64 (i.toNat:Int),.int .i64 base,.bool false,.bool true] Tryd.call56 (internal_strconv_formatBits_c H.has hG2 dst A0_0 c0_0 i base false true hse28 hFn28 h_format1) ?_)
  rintro _ w28 ⟨A28_0,c28_0,mk28,rfl,hS28,hl28_0⟩
  have hsub28:=hS28.sub
  replace H:=hcl28 _ _ _ hS28
  refine Sg 10 [.co [1,1,1,1]] [(6,.slice A28_0 format1.1.length c28_0)] ?_
  refine Rr [6] [.slice A28_0 format1.1.length c28_0] ?_
  obtain rfl:format1.1=r:=(Option.some.inj hf)
  exact ⟨_,rfl,A28_0,c28_0,mk28,rfl,H⟩
theorem internal_strconv_AppendInt_c {m:Mem} {w:World} (hm:Has m w) (hG0:TabM m 0 (tab0.map fU64)) (hG2:TabM m 2 (tab2.map fU8)) (dst:(List UInt8)) (A0_0:Option Addr) (c0_0:Nat) (i:Int) (base:Int) {F:Nat → Prop} (hsep:Sep m w [rowI rU8 5 A0_0 c0_0 dst] F) (hF:∀ k,F k → m k=none) {r:(List UInt8)} (hf:internal_strconv_AppendInt dst i base=some r) :
  Calls Tryd.prog 51 #[.slice A0_0 dst.length c0_0,.int .i64 i,.int .i64 base] w fun e w' => ∃ v,e=.returned v ∧ ∃ Az_0:Option Addr,∃ cz_0:Nat,∃ m':Mem,v=.slice Az_0 r.length cz_0 ∧ St w F m m' [rowI rU8 5 Az_0 cz_0 r] w':=by
 unfold internal_strconv_AppendInt at hf
 have H:=St.start hm hsep hF
 refine Fc Tryd.func51 ?_
 refine Sg 16 [.co [1,1,0,1],.co [1,1,1]] [(0,.slice A0_0 dst.length c0_0),(2,.int .i64 base),(7,.int .u64 (IntKind.u64.wrap i)),(11,.bool (decide (i < 0)))] ?_
 rw [q64_wrap i]
 rcases condT hf with ⟨hb5,hf⟩ | ⟨hb5,hf⟩
 ·rw [hb5]
  have p5:=of_decide_eq_true hb5
  refine Sg 4 [.op [1,1,0,1,0,0] 1,.co [1,1,0,1,0,1],.co [1,1,1]] [(2,.int .i64 base),(7,.int .u64 ((UInt64.ofInt i).toNat:Int)),(12,.slice A0_0 dst.length c0_0)] ?_
  refine st (Nw (some 13) (fun g => .slice (some ⟨g,0,none⟩) 1 1) [.int .u8 45] 5 H ?_)
  intro g6 w6 H
  replace H:St w F m m [blkI g6 [.int .u8 45] 5,rowI rU8 5 A0_0 c0_0 dst] w6:=H
  obtain ⟨b,h_b,hf⟩:=bindE hf
  refine st (appS (r:=rU8) (some 14) 25 5 1 (.int .u8 0) 25 1 A0_0 (some ⟨g6,0,none⟩) c0_0 1 1 dst [(45:UInt8)] b _ H rfl ⟨Tryd.underlying25,by kernel_rfl⟩ rfl (by decide) (by kernel_rfl) (Cs.of_blk (H.blk 0 rfl)) (Rows.u8.2 rfl) rfl h_b (by decide) (by decide) ?_)
  intro A7 c7 w7 H
  replace H:=H.drop 0 rfl
  refine Sg 12 [.op [1,1,1,0] 3,.co [1,1,1,1]] [(17,.slice A7 b.length c7),(18,.int .u64 (IntKind.u64.wrap (0 - ((UInt64.ofInt i).toNat:Int)))),(19,.int .i64 base)] ?_
  rw [q64_sub (0:UInt64) (UInt64.ofInt i) 0 ((UInt64.ofInt i).toNat:Int) (by rfl) (by rfl)]
  obtain ⟨append,h_append,hf⟩:=bindE hf
  obtain ⟨F9,hse9,hFn9,hcl9⟩:=St.call [rowI rU8 5 A7 c7 b] H
  refine st (Cl (some 20) 52 #[.slice A7 b.length c7,.int .u64 (((0:UInt64) - (UInt64.ofInt i)).toNat:Int),.int .i64 base] Tryd.call52 (internal_strconv_AppendUint_c H.has hG0 hG2 b A7 c7 ((0:UInt64) - (UInt64.ofInt i)) base hse9 hFn9 h_append) ?_)
  rintro _ w9 ⟨A9_0,c9_0,mk9,rfl,hS9⟩
  have hsub9:=hS9.sub
  replace H:=hcl9 _ _ _ hS9
  refine Sg 2 [.co [1,1,1,1]] [(6,.slice A9_0 append.length c9_0)] ?_
  refine Rr [6] [.slice A9_0 append.length c9_0] ?_
  have hret:=(Option.some.inj hf)
  subst hret
  exact ⟨_,rfl,A9_0,c9_0,mk9,rfl,H⟩
 ·rw [hb5]
  have p5:=of_decide_eq_false hb5
  refine Sg 7 [.op [1,1,1,0] 3,.co [1,1,1,1]] [(17,.slice A0_0 dst.length c0_0),(18,.int .u64 ((UInt64.ofInt i).toNat:Int)),(19,.int .i64 base)] ?_
  obtain ⟨append1,h_append1,hf⟩:=bindE hf
  obtain ⟨F10,hse10,hFn10,hcl10⟩:=St.call [rowI rU8 5 A0_0 c0_0 dst] H
  refine st (Cl (some 20) 52 #[.slice A0_0 dst.length c0_0,.int .u64 ((UInt64.ofInt i).toNat:Int),.int .i64 base] Tryd.call52 (internal_strconv_AppendUint_c H.has hG0 hG2 dst A0_0 c0_0 (UInt64.ofInt i) base hse10 hFn10 h_append1) ?_)
  rintro _ w10 ⟨A10_0,c10_0,mk10,rfl,hS10⟩
  have hsub10:=hS10.sub
  replace H:=hcl10 _ _ _ hS10
  refine Sg 2 [.co [1,1,1,1]] [(6,.slice A10_0 append1.length c10_0)] ?_
  refine Rr [6] [.slice A10_0 append1.length c10_0] ?_
  have hret:=(Option.some.inj hf)
  subst hret
  exact ⟨_,rfl,A10_0,c10_0,mk10,rfl,H⟩
theorem strconv_AppendInt_c {m:Mem} {w:World} (hm:Has m w) (hG0:TabM m 0 (tab0.map fU64)) (hG2:TabM m 2 (tab2.map fU8)) (dst:(List UInt8)) (A0_0:Option Addr) (c0_0:Nat) (i:Int) (base:Int) {F:Nat → Prop} (hsep:Sep m w [rowI rU8 5 A0_0 c0_0 dst] F) (hF:∀ k,F k → m k=none) {r:(List UInt8)} (hf:strconv_AppendInt dst i base=some r) :
  Calls Tryd.prog 46 #[.slice A0_0 dst.length c0_0,.int .i64 i,.int .i64 base] w fun e w' => ∃ v,e=.returned v ∧ ∃ Az_0:Option Addr,∃ cz_0:Nat,∃ m':Mem,v=.slice Az_0 r.length cz_0 ∧ St w F m m' [rowI rU8 5 Az_0 cz_0 r] w':=by
 unfold strconv_AppendInt at hf
 have H:=St.start hm hsep hF
 refine Fc Tryd.func46 ?_
 refine Sg 9 [.op [1,0] 3,.co [1,1]] [(7,.slice A0_0 dst.length c0_0),(8,.int .i64 i),(9,.int .i64 base)] ?_
 obtain ⟨append,h_append,hf⟩:=bindE hf
 obtain ⟨F1,hse1,hFn1,hcl1⟩:=St.call [rowI rU8 5 A0_0 c0_0 dst] H
 refine st (Cl (some 10) 51 #[.slice A0_0 dst.length c0_0,.int .i64 i,.int .i64 base] Tryd.call51 (internal_strconv_AppendInt_c H.has hG0 hG2 dst A0_0 c0_0 i base hse1 hFn1 h_append) ?_)
 rintro _ w1 ⟨A1_0,c1_0,mk1,rfl,hS1⟩
 have hsub1:=hS1.sub
 replace H:=hcl1 _ _ _ hS1
 refine Sg 2 [.co [1,1]] [(6,.slice A1_0 append.length c1_0)] ?_
 refine Rr [6] [.slice A1_0 append.length c1_0] ?_
 have hret:=(Option.some.inj hf)
 subst hret
 exact ⟨_,rfl,A1_0,c1_0,mk1,rfl,H⟩
theorem manifest_num_c {m:Mem} {w:World} (hm:Has m w) (hG0:TabM m 0 (tab0.map fU64)) (hG2:TabM m 2 (tab2.map fU8)) (b:(List UInt8)) (A0_0:Option Addr) (c0_0:Nat) (n_:Int) (base:Int) {F:Nat → Prop} (hsep:Sep m w [rowI rU8 5 A0_0 c0_0 b] F) (hF:∀ k,F k → m k=none) {r:(List UInt8)} (hf:manifest_num b n_ base=some r) :
  Calls Tryd.prog 33 #[.slice A0_0 b.length c0_0,.int .i64 n_,.int .i64 base] w fun e w' => ∃ v,e=.returned v ∧ ∃ Az_0:Option Addr,∃ cz_0:Nat,∃ m':Mem,v=.slice Az_0 r.length cz_0 ∧ St w F m m' [rowI rU8 5 Az_0 cz_0 r] w':=by
 unfold manifest_num at hf
 have H:=St.start hm hsep hF
 refine Fc Tryd.func33 ?_
 refine Sg 7 [.op [1,0] 1,.co [1,1]] [(1,.int .i64 n_),(2,.int .i64 base),(7,.slice A0_0 b.length c0_0)] ?_
 refine st (Nw (some 8) (fun g => .slice (some ⟨g,0,none⟩) 1 1) [.int .u8 32] 5 H ?_)
 intro g1 w1 H
 obtain ⟨b1,h_b1,hf⟩:=bindE hf
 refine st (appS (r:=rU8) (some 9) 25 5 1 (.int .u8 0) 25 1 A0_0 (some ⟨g1,0,none⟩) c0_0 1 1 b [(32:UInt8)] b1 _ H rfl ⟨Tryd.underlying25,by kernel_rfl⟩ rfl (by decide) (by kernel_rfl) (Cs.of_blk (H.blk 0 rfl)) (Rows.u8.2 rfl) rfl h_b1 (by decide) (by decide) ?_)
 intro A2 c2 w2 H
 replace H:=H.drop 0 rfl
 refine Sg 2 [.op [1,0] 5,.co [1,1]] [(9,.slice A2 b1.length c2),(10,.int .i64 n_),(11,.int .i64 base)] ?_
 obtain ⟨append,h_append,hf⟩:=bindE hf
 obtain ⟨F3,hse3,hFn3,hcl3⟩:=St.call [rowI rU8 5 A2 c2 b1] H
 refine st (Cl (some 12) 46 #[.slice A2 b1.length c2,.int .i64 n_,.int .i64 base] Tryd.call46 (strconv_AppendInt_c H.has hG0 hG2 b1 A2 c2 n_ base hse3 hFn3 h_append) ?_)
 rintro _ w3 ⟨A3_0,c3_0,mk3,rfl,hS3⟩
 have hsub3:=hS3.sub
 replace H:=hcl3 _ _ _ hS3
 refine Sg 2 [.co [1,1]] [(6,.slice A3_0 append.length c3_0)] ?_
 refine Rr [6] [.slice A3_0 append.length c3_0] ?_
 have hret:=(Option.some.inj hf)
 subst hret
 exact ⟨_,rfl,A3_0,c3_0,mk3,rfl,H⟩
theorem manifest_plain_c {m:Mem} {w:World} (hm:Has m w) (c:UInt8) :
  Calls Tryd.prog 23 #[.int .u8 (c.toNat:Int)] w fun e w' => ∃ v,e=.returned v ∧ v=.bool (manifest_plain c) ∧ Ex w w':=by
 generalize hf:manifest_plain c=r
 unfold manifest_plain at hf
 have H:=St.start0 hm
 refine Fc Tryd.func23 ?_
 refine Sg 9 [.op [1,0] 3,.co [1,1]] [(0,.int .u8 (c.toNat:Int)),(5,.bool (decide ((c.toNat:Int) > 32)))] ?_
 rcases condT hf with ⟨hb3,hf⟩ | ⟨hb3,hf⟩
 ·rw [hb3]
  have p3:=of_decide_eq_true hb3
  refine Sg 4 [.op [1,0] 7,.co [1,1]] [(0,.int .u8 (c.toNat:Int)),(9,.bool (decide ((c.toNat:Int) < 127)))] ?_
  rcases condT hf with ⟨hb4,hf⟩ | ⟨hb4,hf⟩
  ·rw [hb4]
   have p4:=of_decide_eq_true hb4
   refine Sg 5 [.co [1,1]] [(2,.bool ((c.toNat:Int) != 37))] ?_
   refine Rr [2] [.bool ((c.toNat:Int) != 37)] ?_
   obtain rfl:((c.toNat:Int) != 37)=r:=hf
   exact ⟨_,rfl,rfl,H.scalar⟩
  ·rw [hb4]
   have p4:=of_decide_eq_false hb4
   refine Sg 5 [.co [1,1]] [(2,.bool false)] ?_
   refine Rr [2] [.bool false] ?_
   have hret:=hf
   subst hret
   exact ⟨_,rfl,rfl,H.scalar⟩
 ·rw [hb3]
  have p3:=of_decide_eq_false hb3
  refine Sg 9 [.co [1,1]] [(2,.bool false)] ?_
  refine Rr [2] [.bool false] ?_
  have hret:=hf
  subst hret
  exact ⟨_,rfl,rfl,H.scalar⟩
theorem manifest_Quote_c {m:Mem} {w:World} (hm:Has m w) (s_:(List UInt8)) (l0_0:s_.length ≤ 9223372036854775807) {r:(List UInt8)} (hf:manifest_Quote s_=some r) :
  Calls Tryd.prog 11 #[.string ⟨s_.toArray⟩] w fun e w' => ∃ v,e=.returned v ∧ v=.string ⟨r.toArray⟩ ∧ Ex w w' ∧ r.length ≤ 9223372036854775807:=by
 unfold manifest_Quote at hf
 have H:=St.start0 hm
 refine Fc Tryd.func11 ?_
 refine Sg 10 [.co [1,0,1],.co [1,1]] [(0,.string ⟨s_.toArray⟩),(7,.bool ((ByteArray.toList ⟨s_.toArray⟩) == (ByteArray.toList ⟨([]:List UInt8).toArray⟩)))] ?_
 rw [seq_raw s_ ([]:List UInt8)]
 rcases condT hf with ⟨hb2,hf⟩ | ⟨hb2,hf⟩
 ·rw [hb2]
  refine Sg 5 [.co [1,0,1,0,1],.co [1,1]] [(2,.string ⟨([37]:List UInt8).toArray⟩)] ?_
  refine Rr [2] [.string ⟨([37]:List UInt8).toArray⟩] ?_
  obtain rfl:([37]:List UInt8)=r:=(Option.some.inj hf)
  exact ⟨_,rfl,rfl,H.scalar,(Nat.le_of_ble_eq_true rfl)⟩
 ·rw [hb2]
  refine Sg 13 [.co [1,1,1,0,1],.co [1,1,1,1]] [(0,.string ⟨s_.toArray⟩),(3,.slice none 0 0),(9,.int .i64 (s_.length:Int)),(10,.int .i64 0)] ?_
  obtain ⟨y67,hp67,hf⟩:=bindE hf
  refine joinR 0 (fun (x:(List UInt8) × Option Addr × Nat) => [(3,.slice (x.2.1) x.1.length (x.2.2))]) (fun (x:(List UInt8) × Option Addr × Nat) (wj67:World) => y67=x.1 ∧ St w noF m m [rowI rU8 5 (x.2.1) (x.2.2) x.1] wj67) (by kernel_rfl) ?_ ?_
  ·refine Sg 1 [.co [1,1,1,0,1,0],.bl 0,.le 0,.co [1,1,1,1]] [(0,.string ⟨s_.toArray⟩),(3,.slice none 0 0),(9,.int .i64 (s_.length:Int)),(10,.int .i64 0)] ?_
   have H:=H.nilR rU8 5
   obtain ⟨nn85,hR85⟩:=loopO_iff.1 hp67
   refine Lp 1 (fun (x:Nat × (List UInt8) × Nat × Option Addr × Nat) => [(0,.string ⟨s_.toArray⟩),(3,.slice (x.2.2.2.1) x.2.1.length (x.2.2.2.2)),(9,.int .i64 (s_.length:Int)),(10,.int .i64 (x.2.2.1:Int))]) (fun (x:Nat × (List UInt8) × Nat × Option Addr × Nat) (wl85:World) => iter (fun s => manifest_Quote_l1 s_ s.1 s.2) x.1 (x.2.1,x.2.2.1)=some y67 ∧ St w noF m m [rowI rU8 5 (x.2.2.2.1) (x.2.2.2.2) x.2.1] wl85) (fun (x:Nat × (List UInt8) × Nat × Option Addr × Nat) => x.1) (nn85,[],0,none,0) ?_ ?_
   ·exact ⟨hR85,H⟩
   rintro ⟨n85,b,t,A_1_86,c_2_86⟩ wl85 ⟨hR85,H⟩
   try dsimp only at hR85
   try dsimp only at H
   obtain ⟨nk85,q85,rfl,hb_85,hnx85,hfin85⟩:=iterE hR85
   replace hb_85:manifest_Quote_l1 s_ b t=some q85:=hb_85
   unfold manifest_Quote_l1 at hb_85
   refine Sg 5 [.co [1,1,1,0,1,0,0,1,0],.co [1,1,1,0,1,0,0,1,1],.le 1,.bl 0,.le 0,.co [1,1,1,1]] [(0,.string ⟨s_.toArray⟩),(3,.slice A_1_86 b.length c_2_86),(9,.int .i64 (s_.length:Int)),(10,.int .i64 (t:Int)),(11,.bool (decide ((t:Int) < (s_.length:Int))))] ?_
   rcases condT hb_85 with ⟨hb87,hb_85⟩ | ⟨hb87,hb_85⟩
   ·rw [hb87]
    have p87:=of_decide_eq_true hb87
    refine Sg 13 [.op [1,1,1,0,1,0,0,1,1,0,0,1,0] 2,.co [1,1,1,0,1,0,0,1,1,0,0,1,1],.bl 1,.co [1,1,1,0,1,0,0,1,1,1],.le 1,.bl 0,.le 0,.co [1,1,1,1]] [(0,.string ⟨s_.toArray⟩),(3,.slice A_1_86 b.length c_2_86),(9,.int .i64 (s_.length:Int)),(10,.int .i64 (t:Int)),(13,.string ⟨s_.toArray⟩),(14,.int .i64 (t:Int))] ?_
    replace H:St w noF m m [rowI rU8 5 A_1_86 c_2_86 b] wl85:=H
    obtain ⟨c,h_c,hb_85⟩:=bindE hb_85
    refine st (Ts (some 15) 9 s_ .i64 (t:Int) c h_c ?_)
    refine Sg 5 [.op [1,1,1,0,1,0,0,1,1,0,0,1,1,0] 1,.co [1,1,1,0,1,0,0,1,1,0,0,1,1,1],.bl 1,.co [1,1,1,0,1,0,0,1,1,1],.le 1,.bl 0,.le 0,.co [1,1,1,1]] [(0,.string ⟨s_.toArray⟩),(3,.slice A_1_86 b.length c_2_86),(5,.int .u8 (c.toNat:Int)),(9,.int .i64 (s_.length:Int)),(10,.int .i64 (t:Int)),(16,.int .u8 (c.toNat:Int))] ?_
    refine st (Cl (some 17) 23 #[.int .u8 (c.toNat:Int)] Tryd.call23 (manifest_plain_c H.has c) ?_)
    rintro _ w88 ⟨rfl,hx88⟩
    replace H:=H.ex hx88
    refine Sg 1 [.co [1,1,1,0,1,0,0,1,1,0,0,1,1,1],.bl 1,.co [1,1,1,0,1,0,0,1,1,1],.le 1,.bl 0,.le 0,.co [1,1,1,1]] [(0,.string ⟨s_.toArray⟩),(3,.slice A_1_86 b.length c_2_86),(5,.int .u8 (c.toNat:Int)),(9,.int .i64 (s_.length:Int)),(10,.int .i64 (t:Int)),(17,.bool (manifest_plain c))] ?_
    rcases condT hb_85 with ⟨hb89,hb_85⟩ | ⟨hb89,hb_85⟩
    ·rw [hb89]
     refine Sg 4 [.op [1,1,1,0,1,0,0,1,1,0,0,1,1,1,0] 2,.bl 1,.co [1,1,1,0,1,0,0,1,1,1],.le 1,.bl 0,.le 0,.co [1,1,1,1]] [(0,.string ⟨s_.toArray⟩),(9,.int .i64 (s_.length:Int)),(10,.int .i64 (t:Int)),(18,.slice A_1_86 b.length c_2_86),(19,.int .u8 (c.toNat:Int))] ?_
     refine st (Nw (some 20) (fun g => .slice (some ⟨g,0,none⟩) 1 1) [.int .u8 (c.toNat:Int)] 5 H ?_)
     intro g90 w90 H
     obtain ⟨b1,h_b1,hb_85⟩:=bindE hb_85
     refine st (appS (r:=rU8) (some 21) 25 5 1 (.int .u8 0) 25 1 A_1_86 (some ⟨g90,0,none⟩) c_2_86 1 1 b [c] b1 _ H rfl ⟨Tryd.underlying25,by kernel_rfl⟩ rfl (by decide) (by kernel_rfl) (Cs.of_blk (H.blk 0 rfl)) (Rows.u8.2 rfl) rfl h_b1 (by decide) (by decide) ?_)
     intro A91 c91 w91 H
     replace H:=H.drop 0 rfl
     refine Sg 7 [.le 1,.bl 0,.le 0,.co [1,1,1,1]] [(0,.string ⟨s_.toArray⟩),(3,.slice A91 b1.length c91),(9,.int .i64 (s_.length:Int)),(10,.int .i64 (IntKind.i64.wrap ((t:Int)+1)))] ?_
     have:=l0_0
     rw [show IntKind.i64.wrap ((t:Int)+1)=((t:Int)+1) from w64 (by omega)]
     refine Lq (nk85,b1,(t+1),A91,c91) (Nat.lt_succ_self _) ⟨hnx85 _ (Option.some.inj hb_85).symm,H⟩
    ·rw [hb89]
     refine Sg 1 [.co [1,1,1,0,1,0,0,1,1,0,0,1,1,1,1],.bl 1,.co [1,1,1,0,1,0,0,1,1,1],.le 1,.bl 0,.le 0,.co [1,1,1,1]] [(0,.string ⟨s_.toArray⟩),(3,.slice A_1_86 b.length c_2_86),(5,.int .u8 (c.toNat:Int)),(9,.int .i64 (s_.length:Int)),(10,.int .i64 (t:Int))] ?_
     obtain ⟨c1,h_c1,hb_85⟩:=bindE hb_85
     obtain ⟨c2,h_c2,hb_85⟩:=bindE hb_85
     obtain ⟨b2,h_b2,hb_85⟩:=bindE hb_85
     have hst:statB (bodyOf Tryd.f11) [1,1,1,0,1,0,0,1,1,0,0,1,1,1,1]=true:=by kernel_rfl
     refine Dw (Has m) H ?_
     intro w94 H
     refine Sk hst [0,1,4,5] [0,1,4,5] [(0,.string ⟨s_.toArray⟩),(9,.int .i64 (s_.length:Int)),(10,.int .i64 (t:Int)),(22,.slice A_1_86 b.length c_2_86),(23,.int .u8 (c.toNat:Int)),(27,.int .u8 (Go.bits .and .u8 (c.toNat:Int) 15))] ?_
     rw [q8_and c (15:UInt8) (c.toNat:Int) 15 (by rfl) (by rfl)]
     refine Tk (i:=6) (d:=(some 28)) (s:=vS (Instr.index 9 (.string ⟨([48,49,50,51,52,53,54,55,56,57,97,98,99,100,101,102]:List UInt8).toArray⟩) (.int .u8 ((c &&& (15:UInt8)).toNat:Int)))) (v:=.int .u8 (c2.toNat:Int)) hst (fun w' hw' => str_idx_run _ _ _ _ _ (by kernel_rfl) h_c2) ?_
     replace H:St w noF m m [rowI rU8 5 A_1_86 c_2_86 b] w94:=H
     refine Sd (i:=2) H.has (runR (by kernel_rfl:fetch _ _ _ _ _=some ((some 24),vS (Op.shift .shr .u8 (c.toNat:Int) .u64 4))) (shr8_run _ _ (by decide)) ?_)
     refine Sd (i:=3) H.has (Ts (some 25) 9 ([48,49,50,51,52,53,54,55,56,57,97,98,99,100,101,102]:List UInt8) .u8 ((shr8 c 4).toNat:Int) c1 h_c1 ?_)
     refine Sd (i:=7) H.has (Nw (some 29) (fun g => .slice (some ⟨g,0,none⟩) 3 3) [.int .u8 37,.int .u8 (c1.toNat:Int),.int .u8 (c2.toNat:Int)] 5 H ?_)
     intro g95 w95 H
     refine Sd (i:=8) H.has (appS (r:=rU8) (some 30) 25 5 1 (.int .u8 0) 25 1 A_1_86 (some ⟨g95,0,none⟩) c_2_86 3 3 b [(37:UInt8),c1,c2] b2 _ H rfl ⟨Tryd.underlying25,by kernel_rfl⟩ rfl (by decide) (by kernel_rfl) (Cs.of_blk (H.blk 0 rfl)) (Rows.u8.2 rfl) rfl h_b2 (by decide) (by decide) ?_)
     intro A96 c96 w96 H
     replace H:=H.drop 0 rfl
     refine Sk hst [9] [0,1,4,5,6,2,3,7,8,9] [(0,.string ⟨s_.toArray⟩),(3,.slice A96 b2.length c96),(9,.int .i64 (s_.length:Int)),(10,.int .i64 (t:Int))] ?_
     refine Ed H.has ?_
     refine Sg 5 [.le 1,.bl 0,.le 0,.co [1,1,1,1]] [(0,.string ⟨s_.toArray⟩),(3,.slice A96 b2.length c96),(9,.int .i64 (s_.length:Int)),(10,.int .i64 (IntKind.i64.wrap ((t:Int)+1)))] ?_
     have:=l0_0
     rw [show IntKind.i64.wrap ((t:Int)+1)=((t:Int)+1) from w64 (by omega)]
     refine Lq (nk85,b2,(t+1),A96,c96) (Nat.lt_succ_self _) ⟨hnx85 _ (Option.some.inj hb_85).symm,H⟩
   ·rw [hb87]
    have p87:=of_decide_eq_false hb87
    refine Sg 2 [.le 0,.co [1,1,1,1]] [(3,.slice A_1_86 b.length c_2_86)] ?_
    refine leR_up (k':=[]) (by rfl) ?_
    refine Lj (b,A_1_86,c_2_86) ⟨(hfin85 _ (Option.some.inj hb_85).symm).symm,H⟩
  rintro ⟨b,A_1_68,c_2_68⟩ wj67 ⟨hy67,H⟩
  try dsimp only at hy67
  try dsimp only at H
  rw [hy67] at hf
  refine Sg 3 [.op [1,1,1,1,0] 1,.co [1,1,1,1,1]] [(32,.slice A_1_68 b.length c_2_68)] ?_
  refine st (b2sS (some 33) 25 9 5 A_1_68 c_2_68 b Tryd.underlying25 Tryd.underlying5 Tryd.underlying9 (by kernel_rfl) (H.rowCs 0 rfl) ?_)
  have hl97:b.length ≤ 9223372036854775807:=(Nat.le_trans (H.rowCap 0 rfl).1 (H.rowCap 0 rfl).2)
  refine Sg 2 [.co [1,1,1,1,1]] [(2,.string ⟨b.toArray⟩)] ?_
  refine Rr [2] [.string ⟨b.toArray⟩] ?_
  have hret:=(Option.some.inj hf)
  subst hret
  exact ⟨_,rfl,rfl,H.scalar,hl97⟩
theorem manifest_line_c {m:Mem} {w:World} (hm:Has m w) (hG0:TabM m 0 (tab0.map fU64)) (hG2:TabM m 2 (tab2.map fU8)) (b:(List UInt8)) (A0_0:Option Addr) (c0_0:Nat) (x_:TApiEntry) (l1_0:x_.Path.length ≤ 9223372036854775807) (A1_7:Option Addr) (c1_7:Nat) (s1_7:SlI rU8 m A1_7 c1_7 x_.Data) (l1_8:x_.Target.length ≤ 9223372036854775807) (A1_10:Option Addr) (c1_10:Nat) (s1_10:SlI rApiAttr m A1_10 c1_10 x_.Attrs) {F:Nat → Prop} (hsep:Sep m w [rowI rU8 5 A0_0 c0_0 b] F) (hF:∀ k,F k → m k=none) {r:(List UInt8)} (hf:manifest_line b x_=some r) :
  Calls Tryd.prog 20 #[.slice A0_0 b.length c0_0,.agg #[.string ⟨x_.Path.toArray⟩,.int .i64 x_.Kind,.int .i64 x_.Mode,.int .i64 x_.Uid,.int .i64 x_.Gid,.int .i64 x_.Time,.int .i64 x_.Size,.slice A1_7 x_.Data.length c1_7,.string ⟨x_.Target.toArray⟩,.int .i64 x_.Dev,.slice A1_10 x_.Attrs.length c1_10]] w fun e w' => ∃ v,e=.returned v ∧ ∃ Az_0:Option Addr,∃ cz_0:Nat,∃ m':Mem,v=.slice Az_0 r.length cz_0 ∧ St w F m m' [rowI rU8 5 Az_0 cz_0 r] w':=by
 unfold manifest_line at hf
 have H:=St.start hm hsep hF
 refine Fc Tryd.func20 ?_
 refine Sg 2 [.op [0] 0,.co [1]] [(0,.slice A0_0 b.length c0_0),(1,.agg #[.string ⟨x_.Path.toArray⟩,.int .i64 x_.Kind,.int .i64 x_.Mode,.int .i64 x_.Uid,.int .i64 x_.Gid,.int .i64 x_.Time,.int .i64 x_.Size,.slice A1_7 x_.Data.length c1_7,.string ⟨x_.Target.toArray⟩,.int .i64 x_.Dev,.slice A1_10 x_.Attrs.length c1_10])] ?_
 refine st (Nw (some 3) (fun g => .pointer (some ⟨g,0,none⟩)) [.string ⟨x_.Path.toArray⟩,.int .i64 x_.Kind,.int .i64 x_.Mode,.int .i64 x_.Uid,.int .i64 x_.Gid,.int .i64 x_.Time,.int .i64 x_.Size,.slice A1_7 x_.Data.length c1_7,.string ⟨x_.Target.toArray⟩,.int .i64 x_.Dev,.slice A1_10 x_.Attrs.length c1_10] 44 H ?_)
 intro g1 w1 H
 refine Sg 6 [.op [1,0] 2,.co [1,1]] [(3,.pointer (some ⟨g1,0,none⟩)),(5,.slice A0_0 b.length c0_0),(6,.pointer (some ⟨g1,1,none⟩))] ?_
 refine st (Lr (some 7) 3 ⟨g1,1,none⟩ (.int .i64 x_.Kind) (H.cellB 0 rfl rfl) ?_)
 refine Sg 1 [.op [1,0] 4,.co [1,1]] [(3,.pointer (some ⟨g1,0,none⟩)),(5,.slice A0_0 b.length c0_0),(8,.int .i64 (IntKind.i64.wrap (x_.Kind - 1)))] ?_
 obtain ⟨c,h_c,hf⟩:=bindE hf
 refine st (Ts (some 9) 9 ([102,100,108,98,99,104]:List UInt8) .i64 (IntKind.i64.wrap (x_.Kind - 1)) c h_c ?_)
 refine st (Nw (some 10) (fun g => .slice (some ⟨g,0,none⟩) 1 1) [.int .u8 (c.toNat:Int)] 5 H ?_)
 intro g2 w2 H
 obtain ⟨b1,h_b1,hf⟩:=bindE hf
 refine st (appS (r:=rU8) (some 11) 25 5 1 (.int .u8 0) 25 2 A0_0 (some ⟨g2,0,none⟩) c0_0 1 1 b [c] b1 _ H rfl ⟨Tryd.underlying25,by kernel_rfl⟩ rfl (by decide) (by kernel_rfl) (Cs.of_blk (H.blk 0 rfl)) (Rows.u8.2 rfl) rfl h_b1 (by decide) (by decide) ?_)
 intro A3 c3 w3 H
 replace H:=H.drop 0 rfl
 refine Sg 6 [.op [1,1,0,0] 1,.co [1,1,0,1],.co [1,1,1]] [(0,.slice A3 b1.length c3),(3,.pointer (some ⟨g1,0,none⟩)),(12,.pointer (some ⟨g1,1,none⟩))] ?_
 refine st (Lr (some 13) 3 ⟨g1,1,none⟩ (.int .i64 x_.Kind) (H.cellB 0 rfl rfl) ?_)
 refine Sg 2 [.co [1,1,0,1],.co [1,1,1]] [(0,.slice A3 b1.length c3),(3,.pointer (some ⟨g1,0,none⟩)),(14,.bool (x_.Kind != 6))] ?_
 obtain ⟨y67,hp67,hf⟩:=bindE hf
 refine joinR 0 (fun (x:(List UInt8) × Option Addr × Nat × Mem) => [(0,.slice (x.2.1) x.1.length (x.2.2.1)),(3,.pointer (some ⟨g1,0,none⟩))]) (fun (x:(List UInt8) × Option Addr × Nat × Mem) (wj67:World) => y67=x.1 ∧ St w F m x.2.2.2 [rowI rU8 5 (x.2.1) (x.2.2.1) x.1,blkI g1 [.string ⟨x_.Path.toArray⟩,.int .i64 x_.Kind,.int .i64 x_.Mode,.int .i64 x_.Uid,.int .i64 x_.Gid,.int .i64 x_.Time,.int .i64 x_.Size,.slice A1_7 x_.Data.length c1_7,.string ⟨x_.Target.toArray⟩,.int .i64 x_.Dev,.slice A1_10 x_.Attrs.length c1_10] 44] wj67 ∧ Sub m x.2.2.2) (by kernel_rfl) ?_ ?_
 ·rcases condT hp67 with ⟨hb69,hp67⟩ | ⟨hb69,hp67⟩
  ·rw [hb69]
   refine Sg 5 [.op [1,1,0,1,0,0] 2,.co [1,1,0,1,0,1],.le 0,.co [1,1,1]] [(3,.pointer (some ⟨g1,0,none⟩)),(15,.slice A3 b1.length c3),(16,.pointer (some ⟨g1,2,none⟩))] ?_
   replace H:St w F m m [blkI g1 [.string ⟨x_.Path.toArray⟩,.int .i64 x_.Kind,.int .i64 x_.Mode,.int .i64 x_.Uid,.int .i64 x_.Gid,.int .i64 x_.Time,.int .i64 x_.Size,.slice A1_7 x_.Data.length c1_7,.string ⟨x_.Target.toArray⟩,.int .i64 x_.Dev,.slice A1_10 x_.Attrs.length c1_10] 44,rowI rU8 5 A3 c3 b1] w3:=H
   refine st (Lr (some 17) 3 ⟨g1,2,none⟩ (.int .i64 x_.Mode) (H.cellB 0 rfl rfl) ?_)
   obtain ⟨num,h_num,hp67⟩:=bindE hp67
   obtain ⟨F70,hse70,hFn70,hcl70⟩:=St.call [rowI rU8 5 A3 c3 b1] (H.pull 1 rfl)
   refine st (Cl (some 18) 33 #[.slice A3 b1.length c3,.int .i64 x_.Mode,.int .i64 8] Tryd.call33 (manifest_num_c H.has hG0 hG2 b1 A3 c3 x_.Mode 8 hse70 hFn70 h_num) ?_)
   rintro _ w70 ⟨A70_0,c70_0,mk70,rfl,hS70⟩
   have hsub70:=hS70.sub
   replace H:=hcl70 _ _ _ hS70
   refine Sg 2 [.co [1,1,0,1,0,1],.le 0,.co [1,1,1]] [(0,.slice A70_0 num.length c70_0),(3,.pointer (some ⟨g1,0,none⟩))] ?_
   obtain ⟨num1,h_num1,hp67⟩:=bindE hp67
   obtain ⟨num2,h_num2,hp67⟩:=bindE hp67
   obtain ⟨num3,h_num3,hp67⟩:=bindE hp67
   have hst:statB (bodyOf Tryd.f20) [1,1,0,1,0,1]=true:=by kernel_rfl
   refine Dw (fun w' => Has mk70 w' ∧ w'.heap[g1]?=some (.cells [.string ⟨x_.Path.toArray⟩,.int .i64 x_.Kind,.int .i64 x_.Mode,.int .i64 x_.Uid,.int .i64 x_.Gid,.int .i64 x_.Time,.int .i64 x_.Size,.slice A1_7 x_.Data.length c1_7,.string ⟨x_.Target.toArray⟩,.int .i64 x_.Dev,.slice A1_10 x_.Attrs.length c1_10].toArray 44 (0,0))) H ?_
   intro w74 H
   refine Sk hst [0,1,4,7] [0,1,4,7] [(3,.pointer (some ⟨g1,0,none⟩)),(19,.slice A70_0 num.length c70_0),(20,.pointer (some ⟨g1,3,none⟩)),(23,.pointer (some ⟨g1,4,none⟩)),(26,.pointer (some ⟨g1,5,none⟩))] ?_
   refine Tk (i:=2) (d:=(some 21)) (s:=vS (Instr.loadAt 3 (.pointer (some ⟨g1,3,none⟩)))) (v:=(.int .i64 x_.Uid)) hst (fun w' hw' => ld_run _ _ _ (by kernel_rfl) (blk_cell hw'.2 rfl)) ?_
   refine Tk (i:=5) (d:=(some 24)) (s:=vS (Instr.loadAt 3 (.pointer (some ⟨g1,4,none⟩)))) (v:=(.int .i64 x_.Gid)) hst (fun w' hw' => ld_run _ _ _ (by kernel_rfl) (blk_cell hw'.2 rfl)) ?_
   refine Tk (i:=8) (d:=(some 27)) (s:=vS (Instr.loadAt 3 (.pointer (some ⟨g1,5,none⟩)))) (v:=(.int .i64 x_.Time)) hst (fun w' hw' => ld_run _ _ _ (by kernel_rfl) (blk_cell hw'.2 rfl)) ?_
   replace H:St w F m mk70 [rowI rU8 5 A70_0 c70_0 num,blkI g1 [.string ⟨x_.Path.toArray⟩,.int .i64 x_.Kind,.int .i64 x_.Mode,.int .i64 x_.Uid,.int .i64 x_.Gid,.int .i64 x_.Time,.int .i64 x_.Size,.slice A1_7 x_.Data.length c1_7,.string ⟨x_.Target.toArray⟩,.int .i64 x_.Dev,.slice A1_10 x_.Attrs.length c1_10] 44] w74:=H
   obtain ⟨F75,hse75,hFn75,hcl75⟩:=St.call [rowI rU8 5 A70_0 c70_0 num] H
   refine Sd (i:=3) ⟨H.has,H.blk 1 rfl⟩ (Cl (some 22) 33 #[.slice A70_0 num.length c70_0,.int .i64 x_.Uid,.int .i64 10] Tryd.call33 (manifest_num_c H.has (hG0.mono hsub70) (hG2.mono hsub70) num A70_0 c70_0 x_.Uid 10 hse75 hFn75 h_num1) ?_)
   rintro _ w75 ⟨A75_0,c75_0,mk75,rfl,hS75⟩
   have hsub75:=hS75.sub
   replace H:=hcl75 _ _ _ hS75
   obtain ⟨F76,hse76,hFn76,hcl76⟩:=St.call [rowI rU8 5 A75_0 c75_0 num1] H
   refine Sd (i:=6) ⟨(H.has.sub hsub75),H.blk 1 rfl⟩ (Cl (some 25) 33 #[.slice A75_0 num1.length c75_0,.int .i64 x_.Gid,.int .i64 10] Tryd.call33 (manifest_num_c H.has (hG0.mono (hsub70.trans hsub75)) (hG2.mono (hsub70.trans hsub75)) num1 A75_0 c75_0 x_.Gid 10 hse76 hFn76 h_num2) ?_)
   rintro _ w76 ⟨A76_0,c76_0,mk76,rfl,hS76⟩
   have hsub76:=hS76.sub
   replace H:=hcl76 _ _ _ hS76
   obtain ⟨F77,hse77,hFn77,hcl77⟩:=St.call [rowI rU8 5 A76_0 c76_0 num2] H
   refine Sd (i:=9) ⟨(H.has.sub (hsub75.trans hsub76)),H.blk 1 rfl⟩ (Cl (some 28) 33 #[.slice A76_0 num2.length c76_0,.int .i64 x_.Time,.int .i64 10] Tryd.call33 (manifest_num_c H.has (hG0.mono ((hsub70.trans hsub75).trans hsub76)) (hG2.mono ((hsub70.trans hsub75).trans hsub76)) num2 A76_0 c76_0 x_.Time 10 hse77 hFn77 h_num3) ?_)
   rintro _ w77 ⟨A77_0,c77_0,mk77,rfl,hS77⟩
   have hsub77:=hS77.sub
   replace H:=hcl77 _ _ _ hS77
   refine Sk hst [10] [0,1,4,7,2,5,8,3,6,9,10] [(0,.slice A77_0 num3.length c77_0),(3,.pointer (some ⟨g1,0,none⟩))] ?_
   refine Ed ⟨(H.has.sub ((hsub75.trans hsub76).trans hsub77)),H.blk 1 rfl⟩ ?_
   refine Lj (num3,A77_0,c77_0,mk77) ⟨(Option.some.inj hp67).symm,H,(((hsub70.trans hsub75).trans hsub76).trans hsub77)⟩
  ·rw [hb69]
   refine Sg 2 [.le 0,.co [1,1,1]] [(0,.slice A3 b1.length c3),(3,.pointer (some ⟨g1,0,none⟩))] ?_
   refine Lj (b1,A3,c3,m) ⟨(Option.some.inj hp67).symm,(H.pull 1 rfl),(Sub.refl _)⟩
 rintro ⟨b2,A_1_68,c_2_68,mm68⟩ wj67 ⟨hy67,H,hsub68⟩
 try dsimp only at hy67
 try dsimp only at H
 try dsimp only at hsub68
 rw [hy67] at hf
 refine Sg 4 [.op [1,1,1,0,0] 1,.co [1,1,1,0,1],.co [1,1,1,1]] [(0,.slice A_1_68 b2.length c_2_68),(3,.pointer (some ⟨g1,0,none⟩)),(29,.pointer (some ⟨g1,1,none⟩))] ?_
 refine st (Lr (some 30) 3 ⟨g1,1,none⟩ (.int .i64 x_.Kind) (H.cellB 1 rfl rfl) ?_)
 refine Sg 1 [.co [1,1,1,0,1],.co [1,1,1,1]] [(0,.slice A_1_68 b2.length c_2_68),(3,.pointer (some ⟨g1,0,none⟩)),(30,.int .i64 x_.Kind)] ?_
 obtain ⟨y84,hp84,hf⟩:=bindE hf
 refine joinR 0 (fun (x:(List UInt8) × Option Addr × Nat × Mem) => [(0,.slice (x.2.1) x.1.length (x.2.2.1)),(3,.pointer (some ⟨g1,0,none⟩))]) (fun (x:(List UInt8) × Option Addr × Nat × Mem) (wj84:World) => y84=x.1 ∧ St w F m x.2.2.2 [rowI rU8 5 (x.2.1) (x.2.2.1) x.1,blkI g1 [.string ⟨x_.Path.toArray⟩,.int .i64 x_.Kind,.int .i64 x_.Mode,.int .i64 x_.Uid,.int .i64 x_.Gid,.int .i64 x_.Time,.int .i64 x_.Size,.slice A1_7 x_.Data.length c1_7,.string ⟨x_.Target.toArray⟩,.int .i64 x_.Dev,.slice A1_10 x_.Attrs.length c1_10] 44] wj84 ∧ Sub mm68 x.2.2.2) (by kernel_rfl) ?_ ?_
 ·refine Sg 6 [.co [1,1,1,0,1,0,1],.bl 0,.le 0,.co [1,1,1,1]] [(0,.slice A_1_68 b2.length c_2_68),(3,.pointer (some ⟨g1,0,none⟩)),(30,.int .i64 x_.Kind),(31,.bool (x_.Kind == 1))] ?_
  rcases condT hp84 with ⟨hb86,hp84⟩ | ⟨hb86,hp84⟩
  ·rw [hb86]
   refine Sg 4 [.op [1,1,1,0,1,0,1,0] 2,.bl 0,.le 0,.co [1,1,1,1]] [(3,.pointer (some ⟨g1,0,none⟩)),(33,.slice A_1_68 b2.length c_2_68),(34,.pointer (some ⟨g1,6,none⟩))] ?_
   refine st (Lr (some 35) 3 ⟨g1,6,none⟩ (.int .i64 x_.Size) (H.cellB 1 rfl rfl) ?_)
   obtain ⟨num4,h_num4,hp84⟩:=bindE hp84
   obtain ⟨F87,hse87,hFn87,hcl87⟩:=St.call [rowI rU8 5 A_1_68 c_2_68 b2] H
   refine st (Cl (some 36) 33 #[.slice A_1_68 b2.length c_2_68,.int .i64 x_.Size,.int .i64 10] Tryd.call33 (manifest_num_c H.has (hG0.mono hsub68) (hG2.mono hsub68) b2 A_1_68 c_2_68 x_.Size 10 hse87 hFn87 h_num4) ?_)
   rintro _ w87 ⟨A87_0,c87_0,mk87,rfl,hS87⟩
   have hsub87:=hS87.sub
   replace H:=hcl87 _ _ _ hS87
   refine Sg 3 [.le 0,.co [1,1,1,1]] [(0,.slice A87_0 num4.length c87_0),(3,.pointer (some ⟨g1,0,none⟩))] ?_
   refine Lj (num4,A87_0,c87_0,mk87) ⟨(Option.some.inj hp84).symm,H,hsub87⟩
  ·rw [hb86]
   refine Sg 7 [.co [1,1,1,0,1,0,1,1,0,1],.co [1,1,1,0,1,0,1,1,1],.bl 0,.le 0,.co [1,1,1,1]] [(0,.slice A_1_68 b2.length c_2_68),(3,.pointer (some ⟨g1,0,none⟩)),(30,.int .i64 x_.Kind),(37,.bool (x_.Kind == 4))] ?_
   rcases condT hp84 with ⟨hb88,hp84⟩ | ⟨hb88,hp84⟩
   ·rw [hb88]
    refine Sg 6 [.op [1,1,1,0,1,0,1,1,1,0] 2,.bl 0,.le 0,.co [1,1,1,1]] [(3,.pointer (some ⟨g1,0,none⟩)),(40,.slice A_1_68 b2.length c_2_68),(41,.pointer (some ⟨g1,9,none⟩))] ?_
    refine st (Lr (some 42) 3 ⟨g1,9,none⟩ (.int .i64 x_.Dev) (H.cellB 1 rfl rfl) ?_)
    obtain ⟨num5,h_num5,hp84⟩:=bindE hp84
    obtain ⟨F89,hse89,hFn89,hcl89⟩:=St.call [rowI rU8 5 A_1_68 c_2_68 b2] H
    refine st (Cl (some 43) 33 #[.slice A_1_68 b2.length c_2_68,.int .i64 x_.Dev,.int .i64 10] Tryd.call33 (manifest_num_c H.has (hG0.mono hsub68) (hG2.mono hsub68) b2 A_1_68 c_2_68 x_.Dev 10 hse89 hFn89 h_num5) ?_)
    rintro _ w89 ⟨A89_0,c89_0,mk89,rfl,hS89⟩
    have hsub89:=hS89.sub
    replace H:=hcl89 _ _ _ hS89
    refine Sg 3 [.le 0,.co [1,1,1,1]] [(0,.slice A89_0 num5.length c89_0),(3,.pointer (some ⟨g1,0,none⟩))] ?_
    refine Lj (num5,A89_0,c89_0,mk89) ⟨(Option.some.inj hp84).symm,H,hsub89⟩
   ·rw [hb88]
    refine Sg 5 [.co [1,1,1,0,1,0,1,1,1],.bl 0,.le 0,.co [1,1,1,1]] [(0,.slice A_1_68 b2.length c_2_68),(3,.pointer (some ⟨g1,0,none⟩)),(37,.bool (x_.Kind == 5))] ?_
    rcases condT hp84 with ⟨hb90,hp84⟩ | ⟨hb90,hp84⟩
    ·rw [hb90]
     refine Sg 4 [.op [1,1,1,0,1,0,1,1,1,0] 2,.bl 0,.le 0,.co [1,1,1,1]] [(3,.pointer (some ⟨g1,0,none⟩)),(40,.slice A_1_68 b2.length c_2_68),(41,.pointer (some ⟨g1,9,none⟩))] ?_
     replace H:St w F m mm68 [rowI rU8 5 A_1_68 c_2_68 b2,blkI g1 [.string ⟨x_.Path.toArray⟩,.int .i64 x_.Kind,.int .i64 x_.Mode,.int .i64 x_.Uid,.int .i64 x_.Gid,.int .i64 x_.Time,.int .i64 x_.Size,.slice A1_7 x_.Data.length c1_7,.string ⟨x_.Target.toArray⟩,.int .i64 x_.Dev,.slice A1_10 x_.Attrs.length c1_10] 44] wj67:=H
     refine st (Lr (some 42) 3 ⟨g1,9,none⟩ (.int .i64 x_.Dev) (H.cellB 1 rfl rfl) ?_)
     obtain ⟨num6,h_num6,hp84⟩:=bindE hp84
     obtain ⟨F91,hse91,hFn91,hcl91⟩:=St.call [rowI rU8 5 A_1_68 c_2_68 b2] H
     refine st (Cl (some 43) 33 #[.slice A_1_68 b2.length c_2_68,.int .i64 x_.Dev,.int .i64 10] Tryd.call33 (manifest_num_c H.has (hG0.mono hsub68) (hG2.mono hsub68) b2 A_1_68 c_2_68 x_.Dev 10 hse91 hFn91 h_num6) ?_)
     rintro _ w91 ⟨A91_0,c91_0,mk91,rfl,hS91⟩
     have hsub91:=hS91.sub
     replace H:=hcl91 _ _ _ hS91
     refine Sg 3 [.le 0,.co [1,1,1,1]] [(0,.slice A91_0 num6.length c91_0),(3,.pointer (some ⟨g1,0,none⟩))] ?_
     refine Lj (num6,A91_0,c91_0,mk91) ⟨(Option.some.inj hp84).symm,H,hsub91⟩
    ·rw [hb90]
     refine Sg 3 [.le 0,.co [1,1,1,1]] [(0,.slice A_1_68 b2.length c_2_68),(3,.pointer (some ⟨g1,0,none⟩))] ?_
     refine Lj (b2,A_1_68,c_2_68,mm68) ⟨(Option.some.inj hp84).symm,H,(Sub.refl _)⟩
 rintro ⟨b3,A_1_85,c_2_85,mm85⟩ wj84 ⟨hy84,H,hsub85⟩
 try dsimp only at hy84
 try dsimp only at H
 try dsimp only at hsub85
 rw [hy84] at hf
 refine Sg 1 [.co [1,1,1,1,0],.co [1,1,1,1,1]] [(0,.slice A_1_85 b3.length c_2_85),(3,.pointer (some ⟨g1,0,none⟩))] ?_
 obtain ⟨b4,h_b4,hf⟩:=bindE hf
 obtain ⟨quote,h_quote,hf⟩:=bindE hf
 obtain ⟨b5,h_b5,hf⟩:=bindE hf
 have hst:statB (bodyOf Tryd.f20) [1,1,1,1,0]=true:=by kernel_rfl
 refine Dw (fun w' => Has mm85 w' ∧ w'.heap[g1]?=some (.cells [.string ⟨x_.Path.toArray⟩,.int .i64 x_.Kind,.int .i64 x_.Mode,.int .i64 x_.Uid,.int .i64 x_.Gid,.int .i64 x_.Time,.int .i64 x_.Size,.slice A1_7 x_.Data.length c1_7,.string ⟨x_.Target.toArray⟩,.int .i64 x_.Dev,.slice A1_10 x_.Attrs.length c1_10].toArray 44 (0,0))) H ?_
 intro w96 H
 refine Sk hst [0,3] [0,3] [(3,.pointer (some ⟨g1,0,none⟩)),(44,.slice A_1_85 b3.length c_2_85),(47,.pointer (some ⟨g1,0,none⟩))] ?_
 refine Tk (i:=4) (d:=(some 48)) (s:=vS (Instr.loadAt 9 (.pointer (some ⟨g1,0,none⟩)))) (v:=(.string ⟨x_.Path.toArray⟩)) hst (fun w' hw' => ld_run _ _ _ (by kernel_rfl) (blk_cell hw'.2 rfl)) ?_
 replace H:St w F m mm85 [rowI rU8 5 A_1_85 c_2_85 b3,blkI g1 [.string ⟨x_.Path.toArray⟩,.int .i64 x_.Kind,.int .i64 x_.Mode,.int .i64 x_.Uid,.int .i64 x_.Gid,.int .i64 x_.Time,.int .i64 x_.Size,.slice A1_7 x_.Data.length c1_7,.string ⟨x_.Target.toArray⟩,.int .i64 x_.Dev,.slice A1_10 x_.Attrs.length c1_10] 44] w96:=H
 refine Sd (i:=1) ⟨H.has,H.blk 1 rfl⟩ (Nw (some 45) (fun g => .slice (some ⟨g,0,none⟩) 1 1) [.int .u8 32] 5 H ?_)
 intro g97 w97 H
 refine Sd (i:=2) ⟨H.has,H.blk 2 rfl⟩ (appS (r:=rU8) (some 46) 25 5 1 (.int .u8 0) 25 1 A_1_85 (some ⟨g97,0,none⟩) c_2_85 1 1 b3 [(32:UInt8)] b4 _ H rfl ⟨Tryd.underlying25,by kernel_rfl⟩ rfl (by decide) (by kernel_rfl) (Cs.of_blk (H.blk 0 rfl)) (Rows.u8.2 rfl) rfl h_b4 (by decide) (by decide) ?_)
 intro A98 c98 w98 H
 replace H:=H.drop 0 rfl
 refine Sd (i:=5) ⟨H.has,H.blk 1 rfl⟩ (Cl (some 49) 11 #[.string ⟨x_.Path.toArray⟩] Tryd.call11 (manifest_Quote_c H.has x_.Path l1_0 h_quote) ?_)
 rintro _ w99 ⟨rfl,hx99,hl99_0⟩
 replace H:=H.ex hx99
 refine Sd (i:=6) ⟨H.has,H.blk 1 rfl⟩ (appstrS (some 50) 25 9 5 25 0 A98 c98 b4 quote b5 H rfl ⟨Tryd.underlying25,by kernel_rfl⟩ Tryd.underlying9 (by kernel_rfl) h_b5 ?_)
 intro A100 c100 w100 H
 refine Sk hst [7] [0,3,4,1,2,5,6,7] [(0,.slice A100 b5.length c100),(3,.pointer (some ⟨g1,0,none⟩))] ?_
 refine Ed ⟨H.has,H.blk 1 rfl⟩ ?_
 refine Sg 4 [.op [1,1,1,1,1,0,0] 1,.co [1,1,1,1,1,0,1],.co [1,1,1,1,1,1]] [(0,.slice A100 b5.length c100),(3,.pointer (some ⟨g1,0,none⟩)),(51,.pointer (some ⟨g1,1,none⟩))] ?_
 replace H:St w F m mm85 [rowI rU8 5 A100 c100 b5,blkI g1 [.string ⟨x_.Path.toArray⟩,.int .i64 x_.Kind,.int .i64 x_.Mode,.int .i64 x_.Uid,.int .i64 x_.Gid,.int .i64 x_.Time,.int .i64 x_.Size,.slice A1_7 x_.Data.length c1_7,.string ⟨x_.Target.toArray⟩,.int .i64 x_.Dev,.slice A1_10 x_.Attrs.length c1_10] 44] w100:=H
 refine st (Lr (some 52) 3 ⟨g1,1,none⟩ (.int .i64 x_.Kind) (H.cellB 1 rfl rfl) ?_)
 refine Sg 2 [.op [1,1,1,1,1,0,0] 4,.co [1,1,1,1,1,0,1],.co [1,1,1,1,1,1]] [(0,.slice A100 b5.length c100),(3,.pointer (some ⟨g1,0,none⟩)),(54,.bool (x_.Kind == 3))] ?_
 rcases condT hf with ⟨hb101,hf⟩ | ⟨hb101,hf⟩
 ·rw [hb101]
  refine Sg 6 [.co [1,1,1,1,1,0,1,0],.co [1,1,1,1,1,1]] [(0,.slice A100 b5.length c100),(3,.pointer (some ⟨g1,0,none⟩))] ?_
  obtain ⟨b6,h_b6,hf⟩:=bindE hf
  obtain ⟨quote1,h_quote1,hf⟩:=bindE hf
  obtain ⟨b7,h_b7,hf⟩:=bindE hf
  have hst:statB (bodyOf Tryd.f20) [1,1,1,1,1,0,1,0]=true:=by kernel_rfl
  refine Dw (fun w' => Has mm85 w' ∧ w'.heap[g1]?=some (.cells [.string ⟨x_.Path.toArray⟩,.int .i64 x_.Kind,.int .i64 x_.Mode,.int .i64 x_.Uid,.int .i64 x_.Gid,.int .i64 x_.Time,.int .i64 x_.Size,.slice A1_7 x_.Data.length c1_7,.string ⟨x_.Target.toArray⟩,.int .i64 x_.Dev,.slice A1_10 x_.Attrs.length c1_10].toArray 44 (0,0))) H ?_
  intro w106 H
  refine Sk hst [0,3] [0,3] [(59,.slice A100 b5.length c100),(62,.pointer (some ⟨g1,8,none⟩))] ?_
  refine Tk (i:=4) (d:=(some 63)) (s:=vS (Instr.loadAt 9 (.pointer (some ⟨g1,8,none⟩)))) (v:=(.string ⟨x_.Target.toArray⟩)) hst (fun w' hw' => ld_run _ _ _ (by kernel_rfl) (blk_cell hw'.2 rfl)) ?_
  replace H:St w F m mm85 [rowI rU8 5 A100 c100 b5,blkI g1 [.string ⟨x_.Path.toArray⟩,.int .i64 x_.Kind,.int .i64 x_.Mode,.int .i64 x_.Uid,.int .i64 x_.Gid,.int .i64 x_.Time,.int .i64 x_.Size,.slice A1_7 x_.Data.length c1_7,.string ⟨x_.Target.toArray⟩,.int .i64 x_.Dev,.slice A1_10 x_.Attrs.length c1_10] 44] w106:=H
  refine Sd (i:=1) ⟨H.has,H.blk 1 rfl⟩ (Nw (some 60) (fun g => .slice (some ⟨g,0,none⟩) 1 1) [.int .u8 32] 5 H ?_)
  intro g107 w107 H
  refine Sd (i:=2) ⟨H.has,H.blk 2 rfl⟩ (appS (r:=rU8) (some 61) 25 5 1 (.int .u8 0) 25 1 A100 (some ⟨g107,0,none⟩) c100 1 1 b5 [(32:UInt8)] b6 _ H rfl ⟨Tryd.underlying25,by kernel_rfl⟩ rfl (by decide) (by kernel_rfl) (Cs.of_blk (H.blk 0 rfl)) (Rows.u8.2 rfl) rfl h_b6 (by decide) (by decide) ?_)
  intro A108 c108 w108 H
  replace H:=H.drop 0 rfl
  refine Sd (i:=5) ⟨H.has,H.blk 1 rfl⟩ (Cl (some 64) 11 #[.string ⟨x_.Target.toArray⟩] Tryd.call11 (manifest_Quote_c H.has x_.Target l1_8 h_quote1) ?_)
  rintro _ w109 ⟨rfl,hx109,hl109_0⟩
  replace H:=H.ex hx109
  refine Sd (i:=6) ⟨H.has,H.blk 1 rfl⟩ (appstrS (some 65) 25 9 5 25 0 A108 c108 b6 quote1 b7 H rfl ⟨Tryd.underlying25,by kernel_rfl⟩ Tryd.underlying9 (by kernel_rfl) h_b7 ?_)
  intro A110 c110 w110 H
  refine Sk hst [7] [0,3,4,1,2,5,6,7] [(0,.slice A110 b7.length c110)] ?_
  refine Ed ⟨H.has,H.blk 1 rfl⟩ ?_
  refine Sg 3 [.op [1,1,1,1,1,1,0] 1,.co [1,1,1,1,1,1,1]] [(66,.slice A110 b7.length c110)] ?_
  replace H:St w F m mm85 [rowI rU8 5 A110 c110 b7] w110:=(H.drop 1 rfl)
  refine st (Nw (some 67) (fun g => .slice (some ⟨g,0,none⟩) 1 1) [.int .u8 10] 5 H ?_)
  intro g111 w111 H
  obtain ⟨b8,h_b8,hf⟩:=bindE hf
  refine st (appS (r:=rU8) (some 68) 25 5 1 (.int .u8 0) 25 1 A110 (some ⟨g111,0,none⟩) c110 1 1 b7 [(10:UInt8)] b8 _ H rfl ⟨Tryd.underlying25,by kernel_rfl⟩ rfl (by decide) (by kernel_rfl) (Cs.of_blk (H.blk 0 rfl)) (Rows.u8.2 rfl) rfl h_b8 (by decide) (by decide) ?_)
  intro A112 c112 w112 H
  replace H:=H.drop 0 rfl
  refine Sg 2 [.co [1,1,1,1,1,1,1]] [(4,.slice A112 b8.length c112)] ?_
  refine Rr [4] [.slice A112 b8.length c112] ?_
  have hret:=(Option.some.inj hf)
  subst hret
  exact ⟨_,rfl,A112,c112,mm85,rfl,H⟩
 ·rw [hb101]
  refine Sg 1 [.op [1,1,1,1,1,0,0] 5,.co [1,1,1,1,1,0,1],.co [1,1,1,1,1,1]] [(0,.slice A100 b5.length c100),(3,.pointer (some ⟨g1,0,none⟩)),(54,.bool false),(55,.pointer (some ⟨g1,1,none⟩))] ?_
  refine st (Lr (some 56) 3 ⟨g1,1,none⟩ (.int .i64 x_.Kind) (H.cellB 1 rfl rfl) ?_)
  refine Sg 3 [.co [1,1,1,1,1,0,1],.co [1,1,1,1,1,1]] [(0,.slice A100 b5.length c100),(3,.pointer (some ⟨g1,0,none⟩)),(58,.bool (x_.Kind == 6))] ?_
  rcases condT hf with ⟨hb120,hf⟩ | ⟨hb120,hf⟩
  ·rw [hb120]
   refine Sg 1 [.co [1,1,1,1,1,0,1,0],.co [1,1,1,1,1,1]] [(0,.slice A100 b5.length c100),(3,.pointer (some ⟨g1,0,none⟩))] ?_
   obtain ⟨b9,h_b9,hf⟩:=bindE hf
   obtain ⟨quote2,h_quote2,hf⟩:=bindE hf
   obtain ⟨b10,h_b10,hf⟩:=bindE hf
   have hst:statB (bodyOf Tryd.f20) [1,1,1,1,1,0,1,0]=true:=by kernel_rfl
   refine Dw (fun w' => Has mm85 w' ∧ w'.heap[g1]?=some (.cells [.string ⟨x_.Path.toArray⟩,.int .i64 x_.Kind,.int .i64 x_.Mode,.int .i64 x_.Uid,.int .i64 x_.Gid,.int .i64 x_.Time,.int .i64 x_.Size,.slice A1_7 x_.Data.length c1_7,.string ⟨x_.Target.toArray⟩,.int .i64 x_.Dev,.slice A1_10 x_.Attrs.length c1_10].toArray 44 (0,0))) H ?_
   intro w125 H
   refine Sk hst [0,3] [0,3] [(59,.slice A100 b5.length c100),(62,.pointer (some ⟨g1,8,none⟩))] ?_
   refine Tk (i:=4) (d:=(some 63)) (s:=vS (Instr.loadAt 9 (.pointer (some ⟨g1,8,none⟩)))) (v:=(.string ⟨x_.Target.toArray⟩)) hst (fun w' hw' => ld_run _ _ _ (by kernel_rfl) (blk_cell hw'.2 rfl)) ?_
   replace H:St w F m mm85 [rowI rU8 5 A100 c100 b5,blkI g1 [.string ⟨x_.Path.toArray⟩,.int .i64 x_.Kind,.int .i64 x_.Mode,.int .i64 x_.Uid,.int .i64 x_.Gid,.int .i64 x_.Time,.int .i64 x_.Size,.slice A1_7 x_.Data.length c1_7,.string ⟨x_.Target.toArray⟩,.int .i64 x_.Dev,.slice A1_10 x_.Attrs.length c1_10] 44] w125:=H
   refine Sd (i:=1) ⟨H.has,H.blk 1 rfl⟩ (Nw (some 60) (fun g => .slice (some ⟨g,0,none⟩) 1 1) [.int .u8 32] 5 H ?_)
   intro g126 w126 H
   refine Sd (i:=2) ⟨H.has,H.blk 2 rfl⟩ (appS (r:=rU8) (some 61) 25 5 1 (.int .u8 0) 25 1 A100 (some ⟨g126,0,none⟩) c100 1 1 b5 [(32:UInt8)] b9 _ H rfl ⟨Tryd.underlying25,by kernel_rfl⟩ rfl (by decide) (by kernel_rfl) (Cs.of_blk (H.blk 0 rfl)) (Rows.u8.2 rfl) rfl h_b9 (by decide) (by decide) ?_)
   intro A127 c127 w127 H
   replace H:=H.drop 0 rfl
   refine Sd (i:=5) ⟨H.has,H.blk 1 rfl⟩ (Cl (some 64) 11 #[.string ⟨x_.Target.toArray⟩] Tryd.call11 (manifest_Quote_c H.has x_.Target l1_8 h_quote2) ?_)
   rintro _ w128 ⟨rfl,hx128,hl128_0⟩
   replace H:=H.ex hx128
   refine Sd (i:=6) ⟨H.has,H.blk 1 rfl⟩ (appstrS (some 65) 25 9 5 25 0 A127 c127 b9 quote2 b10 H rfl ⟨Tryd.underlying25,by kernel_rfl⟩ Tryd.underlying9 (by kernel_rfl) h_b10 ?_)
   intro A129 c129 w129 H
   refine Sk hst [7] [0,3,4,1,2,5,6,7] [(0,.slice A129 b10.length c129)] ?_
   refine Ed ⟨H.has,H.blk 1 rfl⟩ ?_
   refine Sg 3 [.op [1,1,1,1,1,1,0] 1,.co [1,1,1,1,1,1,1]] [(66,.slice A129 b10.length c129)] ?_
   replace H:St w F m mm85 [rowI rU8 5 A129 c129 b10] w129:=(H.drop 1 rfl)
   refine st (Nw (some 67) (fun g => .slice (some ⟨g,0,none⟩) 1 1) [.int .u8 10] 5 H ?_)
   intro g130 w130 H
   obtain ⟨b11,h_b11,hf⟩:=bindE hf
   refine st (appS (r:=rU8) (some 68) 25 5 1 (.int .u8 0) 25 1 A129 (some ⟨g130,0,none⟩) c129 1 1 b10 [(10:UInt8)] b11 _ H rfl ⟨Tryd.underlying25,by kernel_rfl⟩ rfl (by decide) (by kernel_rfl) (Cs.of_blk (H.blk 0 rfl)) (Rows.u8.2 rfl) rfl h_b11 (by decide) (by decide) ?_)
   intro A131 c131 w131 H
   replace H:=H.drop 0 rfl
   refine Sg 2 [.co [1,1,1,1,1,1,1]] [(4,.slice A131 b11.length c131)] ?_
   refine Rr [4] [.slice A131 b11.length c131] ?_
   have hret:=(Option.some.inj hf)
   subst hret
   exact ⟨_,rfl,A131,c131,mm85,rfl,H⟩
  ·rw [hb120]
   refine Sg 5 [.op [1,1,1,1,1,1,0] 1,.co [1,1,1,1,1,1,1]] [(66,.slice A100 b5.length c100)] ?_
   refine st (Nw (some 67) (fun g => .slice (some ⟨g,0,none⟩) 1 1) [.int .u8 10] 5 H ?_)
   intro g132 w132 H
   obtain ⟨b12,h_b12,hf⟩:=bindE hf
   refine st (appS (r:=rU8) (some 68) 25 5 1 (.int .u8 0) 25 1 A100 (some ⟨g132,0,none⟩) c100 1 1 b5 [(10:UInt8)] b12 _ H rfl ⟨Tryd.underlying25,by kernel_rfl⟩ rfl (by decide) (by kernel_rfl) (Cs.of_blk (H.blk 0 rfl)) (Rows.u8.2 rfl) rfl h_b12 (by decide) (by decide) ?_)
   intro A133 c133 w133 H
   replace H:=H.drop 0 rfl
   refine Sg 2 [.co [1,1,1,1,1,1,1]] [(4,.slice A133 b12.length c133)] ?_
   refine Rr [4] [.slice A133 b12.length c133] ?_
   have hret:=(Option.some.inj hf)
   subst hret
   exact ⟨_,rfl,A133,c133,mm85,rfl,(St.takeN 1 H)⟩
end Go.Proofs.YtebbaokcgnjfiaaDoor.F
