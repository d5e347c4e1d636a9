import Derived.Test.YtebbaokcgnjfiaaDoorProg
import Derived.Test.YtebbaokcgnjfiaaDoorLBP
import Derived.Test.YtebbaokcgnjfiaaDoorLB2
set_option linter.unusedVariables false
set_option linter.unusedSimpArgs false
namespace Go.Proofs.YtebbaokcgnjfiaaDoor.F
open Go Go.RowKit Go.Proofs.YtebbaokcgnjfiaaDoor Go.Proofs.YtebbaokcgnjfiaaDoor.K
set_option maxRecDepth 100000
theorem manifest_hex_c {m:Mem} {w:World} (hm:Has m w) (b:(List UInt8)) (A0_0:Option Addr) (c0_0:Nat) (x_:(List UInt8)) (A1_0:Option Addr) (c1_0:Nat) (s1_0:SlI rU8 m A1_0 c1_0 x_) {F:Nat → Prop} (hsep:Sep m w [rowI rU8 5 A0_0 c0_0 b] F) (hF:∀ k,F k → m k=none) {r:(List UInt8)} (hf:manifest_hex b x_=some r) :
  Calls Tryd.prog 32 #[.slice A0_0 b.length c0_0,.slice A1_0 x_.length c1_0] w fun e w' => ∃ v,e=.returned v ∧ ∃ Az_0:Option Addr,∃ cz_0:Nat,∃ m':Mem,v=.slice Az_0 r.length cz_0 ∧ St w F m m' [rowI rU8 5 Az_0 cz_0 r] w':=by
 unfold manifest_hex at hf
 have H:=St.start hm hsep hF
 refine Fc Tryd.func32 ?_
 refine Sg 11 [.co [1,0,1],.co [1,1]] [(0,.slice A0_0 b.length c0_0),(7,.slice A1_0 x_.length c1_0),(8,.int .i64 (x_.length:Int)),(9,.int .i64 0)] ?_
 obtain ⟨y49,hp49,hf⟩:=bindE hf
 refine joinR 0 (fun (x:(List UInt8) × Option Addr × Nat) => [(0,.slice (x.2.1) x.1.length (x.2.2))]) (fun (x:(List UInt8) × Option Addr × Nat) (wj49:World) => y49=x.1 ∧ St w F m m [rowI rU8 5 (x.2.1) (x.2.2) x.1] wj49) (by kernel_rfl) ?_ ?_
 ·refine Sg 1 [.co [1,0,1,0],.bl 0,.le 0,.co [1,1]] [(0,.slice A0_0 b.length c0_0),(7,.slice A1_0 x_.length c1_0),(8,.int .i64 (x_.length:Int)),(9,.int .i64 0)] ?_
  obtain ⟨nn63,hR63⟩:=loopO_iff.1 hp49
  refine Lp 1 (fun (x:Nat × (List UInt8) × Nat × Option Addr × Nat) => [(0,.slice (x.2.2.2.1) x.2.1.length (x.2.2.2.2)),(7,.slice A1_0 x_.length c1_0),(8,.int .i64 (x_.length:Int)),(9,.int .i64 (x.2.2.1:Int))]) (fun (x:Nat × (List UInt8) × Nat × Option Addr × Nat) (wl63:World) => iter (fun s => manifest_hex_l1 x_ s.1 s.2) x.1 (x.2.1,x.2.2.1)=some y49 ∧ St w F m m [rowI rU8 5 (x.2.2.2.1) (x.2.2.2.2) x.2.1] wl63) (fun (x:Nat × (List UInt8) × Nat × Option Addr × Nat) => x.1) (nn63,b,0,A0_0,c0_0) ?_ ?_
  ·exact ⟨hR63,H⟩
  rintro ⟨n63,b1,t,A_1_65,c_2_65⟩ wl63 ⟨hR63,H⟩
  try dsimp only at hR63
  try dsimp only at H
  obtain ⟨nk63,q63,rfl,hb_63,hnx63,hfin63⟩:=iterE hR63
  replace hb_63:manifest_hex_l1 x_ b1 t=some q63:=hb_63
  unfold manifest_hex_l1 at hb_63
  refine Sg 5 [.co [1,0,1,0,0,1,0],.co [1,0,1,0,0,1,1],.le 1,.bl 0,.le 0,.co [1,1]] [(0,.slice A_1_65 b1.length c_2_65),(7,.slice A1_0 x_.length c1_0),(8,.int .i64 (x_.length:Int)),(9,.int .i64 (t:Int)),(10,.bool (decide ((t:Int) < (x_.length:Int))))] ?_
  rcases condT hb_63 with ⟨hb66,hb_63⟩ | ⟨hb66,hb_63⟩
  ·rw [hb66]
   have p66:=of_decide_eq_true hb66
   refine Sg 6 [.op [1,0,1,0,0,1,1,0,0,0] 0,.co [1,0,1,0,0,1,1,0,0,1],.bl 1,.co [1,0,1,0,0,1,1,1],.le 1,.bl 0,.le 0,.co [1,1]] [(0,.slice A_1_65 b1.length c_2_65),(7,.slice A1_0 x_.length c1_0),(8,.int .i64 (x_.length:Int)),(9,.int .i64 (t:Int))] ?_
   replace H:St w F m m [rowI rU8 5 A_1_65 c_2_65 b1] wl63:=H
   obtain ⟨x_1,h_x_1,hb_63⟩:=bindE hb_63
   obtain ⟨ad68,_,ea68,rfl,hc68⟩:=s1_0.at_ h_x_1 (by decide)
   refine st (Ix (some 11) 25 5 1 A1_0 ad68 x_.length c1_0 .i64 (t:Int) ea68 (by omega) (by have:=(List.getElem?_eq_some_iff.1 h_x_1).1; omega) ?_)
   refine st (Lr (some 12) 5 (ad68.add (t * 1)) (.int .u8 (x_1.toNat:Int)) (H.cellI (mc0 (hc68 0 _ rfl))) ?_)
   refine Sg 2 [.co [1,0,1,0,0,1,1,0,0,1],.bl 1,.co [1,0,1,0,0,1,1,1],.le 1,.bl 0,.le 0,.co [1,1]] [(0,.slice A_1_65 b1.length c_2_65),(6,.int .u8 (x_1.toNat:Int)),(7,.slice A1_0 x_.length c1_0),(8,.int .i64 (x_.length:Int)),(9,.int .i64 (t:Int))] ?_
   obtain ⟨c,h_c,hb_63⟩:=bindE hb_63
   obtain ⟨c1,h_c1,hb_63⟩:=bindE hb_63
   obtain ⟨b2,h_b2,hb_63⟩:=bindE hb_63
   have hst:statB (bodyOf Tryd.f32) [1,0,1,0,0,1,1,0,0,1]=true:=by kernel_rfl
   refine Dw (Has m) H ?_
   intro w71 H
   refine Sk hst [0,1,4,5] [0,1,4,5] [(7,.slice A1_0 x_.length c1_0),(8,.int .i64 (x_.length:Int)),(9,.int .i64 (t:Int)),(13,.slice A_1_65 b1.length c_2_65),(14,.int .u8 (x_1.toNat:Int)),(18,.int .u8 (Go.bits .and .u8 (x_1.toNat:Int) 15))] ?_
   rw [q8_and x_1 (15:UInt8) (x_1.toNat:Int) 15 (by rfl) (by rfl)]
   refine Tk (i:=6) (d:=(some 19)) (s:=vS (Instr.index 9 (.string ⟨([48,49,50,51,52,53,54,55,56,57,97,98,99,100,101,102]:List UInt8).toArray⟩) (.int .u8 ((x_1 &&& (15:UInt8)).toNat:Int)))) (v:=.int .u8 (c1.toNat:Int)) hst (fun w' hw' => str_idx_run _ _ _ _ _ (by kernel_rfl) h_c1) ?_
   refine Sd (i:=2) H.has (runR (by kernel_rfl:fetch _ _ _ _ _=some ((some 15),vS (Op.shift .shr .u8 (x_1.toNat:Int) .u64 4))) (shr8_run _ _ (by decide)) ?_)
   refine Sd (i:=3) H.has (Ts (some 16) 9 ([48,49,50,51,52,53,54,55,56,57,97,98,99,100,101,102]:List UInt8) .u8 ((shr8 x_1 4).toNat:Int) c h_c ?_)
   refine Sd (i:=7) H.has (Nw (some 20) (fun g => .slice (some ⟨g,0,none⟩) 2 2) [.int .u8 (c.toNat:Int),.int .u8 (c1.toNat:Int)] 5 H ?_)
   intro g72 w72 H
   refine Sd (i:=8) H.has (appS (r:=rU8) (some 21) 25 5 1 (.int .u8 0) 25 1 A_1_65 (some ⟨g72,0,none⟩) c_2_65 2 2 b1 [c,c1] b2 _ H rfl ⟨Tryd.underlying25,by kernel_rfl⟩ rfl (by decide) (by kernel_rfl) (Cs.of_blk (H.blk 0 rfl)) (Rows.u8.2 rfl) rfl h_b2 (by decide) (by decide) ?_)
   intro A73 c73 w73 H
   replace H:=H.drop 0 rfl
   refine Sk hst [9] [0,1,4,5,6,2,3,7,8,9] [(0,.slice A73 b2.length c73),(7,.slice A1_0 x_.length c1_0),(8,.int .i64 (x_.length:Int)),(9,.int .i64 (t:Int))] ?_
   refine Ed H.has ?_
   refine Sg 5 [.le 1,.bl 0,.le 0,.co [1,1]] [(0,.slice A73 b2.length c73),(7,.slice A1_0 x_.length c1_0),(8,.int .i64 (x_.length:Int)),(9,.int .i64 (IntKind.i64.wrap ((t:Int)+1)))] ?_
   have:=s1_0.bound
   rw [show IntKind.i64.wrap ((t:Int)+1)=((t:Int)+1) from w64 (by omega)]
   refine Lq (nk63,b2,(t+1),A73,c73) (Nat.lt_succ_self _) ⟨hnx63 _ (Option.some.inj hb_63).symm,H⟩
  ·rw [hb66]
   have p66:=of_decide_eq_false hb66
   refine Sg 2 [.le 0,.co [1,1]] [(0,.slice A_1_65 b1.length c_2_65)] ?_
   refine leR_up (k':=[]) (by rfl) ?_
   refine Lj (b1,A_1_65,c_2_65) ⟨(hfin63 _ (Option.some.inj hb_63).symm).symm,H⟩
 rintro ⟨b1,A_1_50,c_2_50⟩ wj49 ⟨hy49,H⟩
 try dsimp only at hy49
 try dsimp only at H
 rw [hy49] at hf
 refine Sg 5 [.co [1,1,1]] [(4,.slice A_1_50 b1.length c_2_50)] ?_
 refine Rr [4] [.slice A_1_50 b1.length c_2_50] ?_
 have hret:=(Option.some.inj hf)
 subst hret
 exact ⟨_,rfl,A_1_50,c_2_50,m,rfl,H⟩
theorem manifest_rest_c {m:Mem} {w:World} (hm:Has m w) (b:(List UInt8)) (A0_0:Option Addr) (c0_0:Nat) (x_:TApiEntry) (l1_0:x_.Path.length ≤ 9223372036854775807) (A1_7:Option Addr) (c1_7:Nat) (s1_7:SlI rU8 m A1_7 c1_7 x_.Data) (l1_8:x_.Target.length ≤ 9223372036854775807) (A1_10:Option Addr) (c1_10:Nat) (s1_10:SlI rApiAttr m A1_10 c1_10 x_.Attrs) {F:Nat → Prop} (hsep:Sep m w [rowI rU8 5 A0_0 c0_0 b] F) (hF:∀ k,F k → m k=none) {r:(List UInt8)} (hf:manifest_rest b x_=some r) :
  Calls Tryd.prog 19 #[.slice A0_0 b.length c0_0,.agg #[.string ⟨x_.Path.toArray⟩,.int .i64 x_.Kind,.int .i64 x_.Mode,.int .i64 x_.Uid,.int .i64 x_.Gid,.int .i64 x_.Time,.int .i64 x_.Size,.slice A1_7 x_.Data.length c1_7,.string ⟨x_.Target.toArray⟩,.int .i64 x_.Dev,.slice A1_10 x_.Attrs.length c1_10]] w fun e w' => ∃ v,e=.returned v ∧ ∃ Az_0:Option Addr,∃ cz_0:Nat,∃ m':Mem,v=.slice Az_0 r.length cz_0 ∧ St w F m m' [rowI rU8 5 Az_0 cz_0 r] w':=by
 unfold manifest_rest at hf
 have H:=St.start hm hsep hF
 refine Fc Tryd.func19 ?_
 refine Sg 2 [.op [0] 0,.co [1]] [(0,.slice A0_0 b.length c0_0),(1,.agg #[.string ⟨x_.Path.toArray⟩,.int .i64 x_.Kind,.int .i64 x_.Mode,.int .i64 x_.Uid,.int .i64 x_.Gid,.int .i64 x_.Time,.int .i64 x_.Size,.slice A1_7 x_.Data.length c1_7,.string ⟨x_.Target.toArray⟩,.int .i64 x_.Dev,.slice A1_10 x_.Attrs.length c1_10])] ?_
 refine st (Nw (some 3) (fun g => .pointer (some ⟨g,0,none⟩)) [.string ⟨x_.Path.toArray⟩,.int .i64 x_.Kind,.int .i64 x_.Mode,.int .i64 x_.Uid,.int .i64 x_.Gid,.int .i64 x_.Time,.int .i64 x_.Size,.slice A1_7 x_.Data.length c1_7,.string ⟨x_.Target.toArray⟩,.int .i64 x_.Dev,.slice A1_10 x_.Attrs.length c1_10] 44 H ?_)
 intro g1 w1 H
 refine Sg 6 [.op [1,0,0] 1,.co [1,0,1],.co [1,1]] [(0,.slice A0_0 b.length c0_0),(3,.pointer (some ⟨g1,0,none⟩)),(8,.pointer (some ⟨g1,7,none⟩))] ?_
 refine st (Lr (some 9) 25 ⟨g1,7,none⟩ (.slice A1_7 x_.Data.length c1_7) (H.cellB 0 rfl rfl) ?_)
 refine Sg 2 [.co [1,0,1],.co [1,1]] [(0,.slice A0_0 b.length c0_0),(3,.pointer (some ⟨g1,0,none⟩)),(5,.slice A1_7 x_.Data.length c1_7)] ?_
 obtain ⟨y97,hp97,hf⟩:=bindE hf
 refine joinR 0 (fun (x:(List UInt8) × Option Addr × Nat × Mem) => [(0,.slice (x.2.1) x.1.length (x.2.2.1)),(3,.pointer (some ⟨g1,0,none⟩))]) (fun (x:(List UInt8) × Option Addr × Nat × Mem) (wj97:World) => y97=x.1 ∧ St w F m x.2.2.2 [rowI rU8 5 (x.2.1) (x.2.2.1) x.1,blkI g1 [.string ⟨x_.Path.toArray⟩,.int .i64 x_.Kind,.int .i64 x_.Mode,.int .i64 x_.Uid,.int .i64 x_.Gid,.int .i64 x_.Time,.int .i64 x_.Size,.slice A1_7 x_.Data.length c1_7,.string ⟨x_.Target.toArray⟩,.int .i64 x_.Dev,.slice A1_10 x_.Attrs.length c1_10] 44] wj97 ∧ Sub m x.2.2.2) (by kernel_rfl) ?_ ?_
 ·refine Sg 1 [.co [1,0,1,0],.bl 0,.le 0,.co [1,1]] [(0,.slice A0_0 b.length c0_0),(3,.pointer (some ⟨g1,0,none⟩)),(5,.slice A1_7 x_.Data.length c1_7)] ?_
  obtain ⟨nn121,hR121⟩:=loopO_iff.1 hp97
  refine Lp 1 (fun (x:Nat × (List UInt8) × (List UInt8) × Option Addr × Nat × Option Addr × Nat × Mem) => [(0,.slice (x.2.2.2.1) x.2.1.length (x.2.2.2.2.1)),(3,.pointer (some ⟨g1,0,none⟩)),(5,.slice (x.2.2.2.2.2.1) x.2.2.1.length (x.2.2.2.2.2.2.1))]) (fun (x:Nat × (List UInt8) × (List UInt8) × Option Addr × Nat × Option Addr × Nat × Mem) (wl121:World) => iter (fun s => manifest_rest_l1 x_ s.1 s.2) x.1 (x.2.1,x.2.2.1)=some y97 ∧ St w F m x.2.2.2.2.2.2.2 [rowI rU8 5 (x.2.2.2.1) (x.2.2.2.2.1) x.2.1,blkI g1 [.string ⟨x_.Path.toArray⟩,.int .i64 x_.Kind,.int .i64 x_.Mode,.int .i64 x_.Uid,.int .i64 x_.Gid,.int .i64 x_.Time,.int .i64 x_.Size,.slice A1_7 x_.Data.length c1_7,.string ⟨x_.Target.toArray⟩,.int .i64 x_.Dev,.slice A1_10 x_.Attrs.length c1_10] 44] wl121 ∧ Sub m x.2.2.2.2.2.2.2 ∧ SlI rU8 x.2.2.2.2.2.2.2 x.2.2.2.2.2.1 x.2.2.2.2.2.2.1 x.2.2.1) (fun (x:Nat × (List UInt8) × (List UInt8) × Option Addr × Nat × Option Addr × Nat × Mem) => x.1) (nn121,b,x_.Data,A0_0,c0_0,A1_7,c1_7,m) ?_ ?_
  ·exact ⟨hR121,(H.pull 1 rfl),(Sub.refl _),s1_7⟩
  rintro ⟨n121,b1,d,A_1_122,c_2_122,A_3_122,c_4_122,mm122⟩ wl121 ⟨hR121,H,hsub122,hs122_0⟩
  try dsimp only at hR121
  try dsimp only at H
  try dsimp only at hsub122
  try dsimp only at hs122_0
  obtain ⟨nk121,q121,rfl,hb_121,hnx121,hfin121⟩:=iterE hR121
  replace hb_121:manifest_rest_l1 x_ b1 d=some q121:=hb_121
  unfold manifest_rest_l1 at hb_121
  refine Sg 4 [.op [1,0,1,0,0,0,0] 1,.co [1,0,1,0,0,0,1],.co [1,0,1,0,0,1],.le 1,.bl 0,.le 0,.co [1,1]] [(0,.slice A_1_122 b1.length c_2_122),(3,.pointer (some ⟨g1,0,none⟩)),(5,.slice A_3_122 d.length c_4_122),(10,.pointer (some ⟨g1,1,none⟩))] ?_
  refine st (Lr (some 11) 3 ⟨g1,1,none⟩ (.int .i64 x_.Kind) (H.cellB 1 rfl rfl) ?_)
  refine Sg 2 [.op [1,0,1,0,0,0,0] 4,.co [1,0,1,0,0,0,1],.co [1,0,1,0,0,1],.le 1,.bl 0,.le 0,.co [1,1]] [(0,.slice A_1_122 b1.length c_2_122),(3,.pointer (some ⟨g1,0,none⟩)),(5,.slice A_3_122 d.length c_4_122),(13,.bool (x_.Kind == 1))] ?_
  rcases condT hb_121 with ⟨hb123,hb_121⟩ | ⟨hb123,hb_121⟩
  ·rw [hb123]
   refine Sg 5 [.co [1,0,1,0,0,0,1],.co [1,0,1,0,0,1],.le 1,.bl 0,.le 0,.co [1,1]] [(0,.slice A_1_122 b1.length c_2_122),(3,.pointer (some ⟨g1,0,none⟩)),(5,.slice A_3_122 d.length c_4_122),(17,.bool (decide ((d.length:Int) > 0)))] ?_
   rcases condT hb_121 with ⟨hb124,hb_121⟩ | ⟨hb124,hb_121⟩
   ·rw [hb124]
    have p124:=of_decide_eq_true hb124
    refine Sg 4 [.co [1,0,1,0,0,1,0,0],.bl 1,.co [1,0,1,0,0,1,1],.le 1,.bl 0,.le 0,.co [1,1]] [(0,.slice A_1_122 b1.length c_2_122),(3,.pointer (some ⟨g1,0,none⟩)),(5,.slice A_3_122 d.length c_4_122)] ?_
    obtain ⟨y131,hp131,hb_121⟩:=bindE hb_121
    refine joinR 2 (fun (x:(List UInt8) × Option Addr × Nat × Mem) => [(0,.slice (x.2.1) x.1.length (x.2.2.1)),(3,.pointer (some ⟨g1,0,none⟩)),(5,.slice A_3_122 d.length c_4_122)]) (fun (x:(List UInt8) × Option Addr × Nat × Mem) (wj131:World) => y131=x.1 ∧ St w F m x.2.2.2 [rowI rU8 5 (x.2.1) (x.2.2.1) x.1,blkI g1 [.string ⟨x_.Path.toArray⟩,.int .i64 x_.Kind,.int .i64 x_.Mode,.int .i64 x_.Uid,.int .i64 x_.Gid,.int .i64 x_.Time,.int .i64 x_.Size,.slice A1_7 x_.Data.length c1_7,.string ⟨x_.Target.toArray⟩,.int .i64 x_.Dev,.slice A1_10 x_.Attrs.length c1_10] 44] wj131 ∧ Sub mm122 x.2.2.2) (by kernel_rfl) ?_ ?_
    ·obtain ⟨b2,h_b2,hp131⟩:=bindE hp131
     obtain ⟨y_,h_y_,hp131⟩:=bindE hp131
     obtain ⟨hex,h_hex,hp131⟩:=bindE hp131
     obtain ⟨b3,h_b3,hp131⟩:=bindE hp131
     have hst:statB (bodyOf Tryd.f19) [1,0,1,0,0,1,0,0]=true:=by kernel_rfl
     refine Dw (fun w' => Has mm122 w' ∧ w'.heap[g1]?=some (.cells [.string ⟨x_.Path.toArray⟩,.int .i64 x_.Kind,.int .i64 x_.Mode,.int .i64 x_.Uid,.int .i64 x_.Gid,.int .i64 x_.Time,.int .i64 x_.Size,.slice A1_7 x_.Data.length c1_7,.string ⟨x_.Target.toArray⟩,.int .i64 x_.Dev,.slice A1_10 x_.Attrs.length c1_10].toArray 44 (0,0))) H ?_
     intro w139 H
     refine Sk hst [0,3,4,5,6] [0,3,4,5,6] [(3,.pointer (some ⟨g1,0,none⟩)),(5,.slice A_3_122 d.length c_4_122),(23,.slice A_1_122 b1.length c_2_122),(26,.slice A_3_122 d.length c_4_122),(29,.int .i64 (if (d.length:Int) < 32 then (d.length:Int) else 32))] ?_
     refine allD2 [1,7,9] (by kernel_rfl) ⟨H.has,H.blk 1 rfl⟩ ⟨?_,?_,?_,trivial⟩
     ·replace H:St w F m mm122 [rowI rU8 5 A_1_122 c_2_122 b1,blkI g1 [.string ⟨x_.Path.toArray⟩,.int .i64 x_.Kind,.int .i64 x_.Mode,.int .i64 x_.Uid,.int .i64 x_.Gid,.int .i64 x_.Time,.int .i64 x_.Size,.slice A1_7 x_.Data.length c1_7,.string ⟨x_.Target.toArray⟩,.int .i64 x_.Dev,.slice A1_10 x_.Attrs.length c1_10] 44] w139:=H
      refine (Nw (some 24) (fun g => .slice (some ⟨g,0,none⟩) 2 2) [.int .u8 61,.int .u8 32] 5 H ?_)
      intro g141 w141 H
      refine allD2 [2,7,9] (by kernel_rfl) ⟨H.has,H.blk 2 rfl⟩ ⟨?_,?_,?_,trivial⟩
      ·refine (appS (r:=rU8) (some 25) 25 5 1 (.int .u8 0) 25 1 A_1_122 (some ⟨g141,0,none⟩) c_2_122 2 2 b1 [(61:UInt8),(32:UInt8)] b2 _ H rfl ⟨Tryd.underlying25,by kernel_rfl⟩ rfl (by decide) (by kernel_rfl) (Cs.of_blk (H.blk 0 rfl)) (Rows.u8.2 rfl) rfl h_b2 (by decide) (by decide) ?_)
       intro A143 c143 w143 H
       replace H:=H.drop 0 rfl
       refine allD2 [7,9] (by kernel_rfl) ⟨H.has,H.blk 1 rfl⟩ ⟨?_,?_,trivial⟩
       ·refine (sliS (r:=rU8) (some 30) 25 5 A_3_122 c_4_122 d y_ none (some (.int .i64 (if (d.length:Int) < 32 then (d.length:Int) else 32))) 0 (if (d.length:Int) < 32 then (d.length:Int) else 32) hs122_0 (by kernel_rfl) (by kernel_rfl) (.inl ⟨rfl,rfl⟩) (.inr ⟨_,rfl⟩) h_y_ ?_)
        intro A145 c145 hs145
        refine allD2 [8,9] (by kernel_rfl) ⟨H.has,H.blk 1 rfl⟩ ⟨?_,?_,trivial⟩
        ·obtain ⟨F146,hse146,hFn146,hcl146⟩:=St.call [rowI rU8 5 A143 c143 b2] H
         refine (Cl (some 31) 32 #[.slice A143 b2.length c143,.slice A145 y_.length c145] Tryd.call32 (manifest_hex_c H.has b2 A143 c143 y_ A145 c145 hs145 hse146 hFn146 h_hex) ?_)
         rintro _ w146 ⟨A146_0,c146_0,mk146,rfl,hS146⟩
         have hsub146:=hS146.sub
         replace H:=hcl146 _ _ _ hS146
         refine Sd (i:=9) ⟨(H.has.sub hsub146),H.blk 1 rfl⟩ (Nw (some 32) (fun g => .slice (some ⟨g,0,none⟩) 1 1) [.int .u8 10] 5 H ?_)
         intro g147 w147 H
         replace H:St w F m mk146 [blkI g147 [.int .u8 10] 5,rowI rU8 5 A146_0 c146_0 hex,blkI g1 [.string ⟨x_.Path.toArray⟩,.int .i64 x_.Kind,.int .i64 x_.Mode,.int .i64 x_.Uid,.int .i64 x_.Gid,.int .i64 x_.Time,.int .i64 x_.Size,.slice A1_7 x_.Data.length c1_7,.string ⟨x_.Target.toArray⟩,.int .i64 x_.Dev,.slice A1_10 x_.Attrs.length c1_10] 44] w147:=H
         refine Sd (i:=10) ⟨(H.has.sub hsub146),H.blk 2 rfl⟩ (appS (r:=rU8) (some 33) 25 5 1 (.int .u8 0) 25 1 A146_0 (some ⟨g147,0,none⟩) c146_0 1 1 hex [(10:UInt8)] b3 _ H rfl ⟨Tryd.underlying25,by kernel_rfl⟩ rfl (by decide) (by kernel_rfl) (Cs.of_blk (H.blk 0 rfl)) (Rows.u8.2 rfl) rfl h_b3 (by decide) (by decide) ?_)
         intro A148 c148 w148 H
         replace H:=H.drop 0 rfl
         refine Sk hst [11] [0,3,4,5,6,1,2,7,8,9,10,11] [(0,.slice A148 b3.length c148),(3,.pointer (some ⟨g1,0,none⟩)),(5,.slice A_3_122 d.length c_4_122)] ?_
         refine Ed ⟨(H.has.sub hsub146),H.blk 1 rfl⟩ ?_
         refine Lj (b3,A148,c148,mk146) ⟨(Option.some.inj hp131).symm,H,hsub146⟩
        ·refine (Nw (some 32) (fun g => .slice (some ⟨g,0,none⟩) 1 1) [.int .u8 10] 5 H ?_)
         intro g149 w149 H
         replace H:=(H.pull 1 rfl)
         obtain ⟨F150,hse150,hFn150,hcl150⟩:=St.call [rowI rU8 5 A143 c143 b2] H
         refine Sd (i:=8) ⟨H.has,H.blk 2 rfl⟩ (Cl (some 31) 32 #[.slice A143 b2.length c143,.slice A145 y_.length c145] Tryd.call32 (manifest_hex_c H.has b2 A143 c143 y_ A145 c145 hs145 hse150 hFn150 h_hex) ?_)
         rintro _ w150 ⟨A150_0,c150_0,mk150,rfl,hS150⟩
         have hsub150:=hS150.sub
         replace H:=hcl150 _ _ _ hS150
         refine Sd (i:=10) ⟨(H.has.sub hsub150),H.blk 2 rfl⟩ (appS (r:=rU8) (some 33) 25 5 1 (.int .u8 0) 25 0 A150_0 (some ⟨g149,0,none⟩) c150_0 1 1 hex [(10:UInt8)] b3 _ H rfl ⟨Tryd.underlying25,by kernel_rfl⟩ rfl (by decide) (by kernel_rfl) (Cs.of_blk (H.blk 1 rfl)) (Rows.u8.2 rfl) rfl h_b3 (by decide) (by decide) ?_)
         intro A151 c151 w151 H
         replace H:=H.drop 1 rfl
         refine Sk hst [11] [0,3,4,5,6,1,2,7,9,8,10,11] [(0,.slice A151 b3.length c151),(3,.pointer (some ⟨g1,0,none⟩)),(5,.slice A_3_122 d.length c_4_122)] ?_
         refine Ed ⟨(H.has.sub hsub150),H.blk 1 rfl⟩ ?_
         refine Lj (b3,A151,c151,mk150) ⟨(Option.some.inj hp131).symm,H,hsub150⟩
       ·replace H:St w F m mm122 [rowI rU8 5 A143 c143 b2,blkI g1 [.string ⟨x_.Path.toArray⟩,.int .i64 x_.Kind,.int .i64 x_.Mode,.int .i64 x_.Uid,.int .i64 x_.Gid,.int .i64 x_.Time,.int .i64 x_.Size,.slice A1_7 x_.Data.length c1_7,.string ⟨x_.Target.toArray⟩,.int .i64 x_.Dev,.slice A1_10 x_.Attrs.length c1_10] 44] w143:=H
        refine (Nw (some 32) (fun g => .slice (some ⟨g,0,none⟩) 1 1) [.int .u8 10] 5 H ?_)
        intro g152 w152 H
        refine Sd (i:=7) ⟨H.has,H.blk 2 rfl⟩ (sliS (r:=rU8) (some 30) 25 5 A_3_122 c_4_122 d y_ none (some (.int .i64 (if (d.length:Int) < 32 then (d.length:Int) else 32))) 0 (if (d.length:Int) < 32 then (d.length:Int) else 32) hs122_0 (by kernel_rfl) (by kernel_rfl) (.inl ⟨rfl,rfl⟩) (.inr ⟨_,rfl⟩) h_y_ ?_)
        intro A153 c153 hs153
        replace H:=(H.pull 1 rfl)
        obtain ⟨F154,hse154,hFn154,hcl154⟩:=St.call [rowI rU8 5 A143 c143 b2] H
        refine Sd (i:=8) ⟨H.has,H.blk 2 rfl⟩ (Cl (some 31) 32 #[.slice A143 b2.length c143,.slice A153 y_.length c153] Tryd.call32 (manifest_hex_c H.has b2 A143 c143 y_ A153 c153 hs153 hse154 hFn154 h_hex) ?_)
        rintro _ w154 ⟨A154_0,c154_0,mk154,rfl,hS154⟩
        have hsub154:=hS154.sub
        replace H:=hcl154 _ _ _ hS154
        refine Sd (i:=10) ⟨(H.has.sub hsub154),H.blk 2 rfl⟩ (appS (r:=rU8) (some 33) 25 5 1 (.int .u8 0) 25 0 A154_0 (some ⟨g152,0,none⟩) c154_0 1 1 hex [(10:UInt8)] b3 _ H rfl ⟨Tryd.underlying25,by kernel_rfl⟩ rfl (by decide) (by kernel_rfl) (Cs.of_blk (H.blk 1 rfl)) (Rows.u8.2 rfl) rfl h_b3 (by decide) (by decide) ?_)
        intro A155 c155 w155 H
        replace H:=H.drop 1 rfl
        refine Sk hst [11] [0,3,4,5,6,1,2,9,7,8,10,11] [(0,.slice A155 b3.length c155),(3,.pointer (some ⟨g1,0,none⟩)),(5,.slice A_3_122 d.length c_4_122)] ?_
        refine Ed ⟨(H.has.sub hsub154),H.blk 1 rfl⟩ ?_
        refine Lj (b3,A155,c155,mk154) ⟨(Option.some.inj hp131).symm,H,hsub154⟩
      ·refine (sliS (r:=rU8) (some 30) 25 5 A_3_122 c_4_122 d y_ none (some (.int .i64 (if (d.length:Int) < 32 then (d.length:Int) else 32))) 0 (if (d.length:Int) < 32 then (d.length:Int) else 32) hs122_0 (by kernel_rfl) (by kernel_rfl) (.inl ⟨rfl,rfl⟩) (.inr ⟨_,rfl⟩) h_y_ ?_)
       intro A156 c156 hs156
       refine allD2 [2,9] (by kernel_rfl) ⟨H.has,H.blk 2 rfl⟩ ⟨?_,?_,trivial⟩
       ·refine (appS (r:=rU8) (some 25) 25 5 1 (.int .u8 0) 25 1 A_1_122 (some ⟨g141,0,none⟩) c_2_122 2 2 b1 [(61:UInt8),(32:UInt8)] b2 _ H rfl ⟨Tryd.underlying25,by kernel_rfl⟩ rfl (by decide) (by kernel_rfl) (Cs.of_blk (H.blk 0 rfl)) (Rows.u8.2 rfl) rfl h_b2 (by decide) (by decide) ?_)
        intro A157 c157 w157 H
        replace H:=H.drop 0 rfl
        refine allD2 [8,9] (by kernel_rfl) ⟨H.has,H.blk 1 rfl⟩ ⟨?_,?_,trivial⟩
        ·replace H:St w F m mm122 [rowI rU8 5 A157 c157 b2,blkI g1 [.string ⟨x_.Path.toArray⟩,.int .i64 x_.Kind,.int .i64 x_.Mode,.int .i64 x_.Uid,.int .i64 x_.Gid,.int .i64 x_.Time,.int .i64 x_.Size,.slice A1_7 x_.Data.length c1_7,.string ⟨x_.Target.toArray⟩,.int .i64 x_.Dev,.slice A1_10 x_.Attrs.length c1_10] 44] w157:=H
         obtain ⟨F158,hse158,hFn158,hcl158⟩:=St.call [rowI rU8 5 A157 c157 b2] H
         refine (Cl (some 31) 32 #[.slice A157 b2.length c157,.slice A156 y_.length c156] Tryd.call32 (manifest_hex_c H.has b2 A157 c157 y_ A156 c156 hs156 hse158 hFn158 h_hex) ?_)
         rintro _ w158 ⟨A158_0,c158_0,mk158,rfl,hS158⟩
         have hsub158:=hS158.sub
         replace H:=hcl158 _ _ _ hS158
         refine Sd (i:=9) ⟨(H.has.sub hsub158),H.blk 1 rfl⟩ (Nw (some 32) (fun g => .slice (some ⟨g,0,none⟩) 1 1) [.int .u8 10] 5 H ?_)
         intro g159 w159 H
         refine Sd (i:=10) ⟨(H.has.sub hsub158),H.blk 2 rfl⟩ (appS (r:=rU8) (some 33) 25 5 1 (.int .u8 0) 25 1 A158_0 (some ⟨g159,0,none⟩) c158_0 1 1 hex [(10:UInt8)] b3 _ H rfl ⟨Tryd.underlying25,by kernel_rfl⟩ rfl (by decide) (by kernel_rfl) (Cs.of_blk (H.blk 0 rfl)) (Rows.u8.2 rfl) rfl h_b3 (by decide) (by decide) ?_)
         intro A160 c160 w160 H
         replace H:=H.drop 0 rfl
         refine Sk hst [11] [0,3,4,5,6,1,7,2,8,9,10,11] [(0,.slice A160 b3.length c160),(3,.pointer (some ⟨g1,0,none⟩)),(5,.slice A_3_122 d.length c_4_122)] ?_
         refine Ed ⟨(H.has.sub hsub158),H.blk 1 rfl⟩ ?_
         refine Lj (b3,A160,c160,mk158) ⟨(Option.some.inj hp131).symm,H,hsub158⟩
        ·refine (Nw (some 32) (fun g => .slice (some ⟨g,0,none⟩) 1 1) [.int .u8 10] 5 H ?_)
         intro g161 w161 H
         replace H:St w F m mm122 [blkI g161 [.int .u8 10] 5,rowI rU8 5 A157 c157 b2,blkI g1 [.string ⟨x_.Path.toArray⟩,.int .i64 x_.Kind,.int .i64 x_.Mode,.int .i64 x_.Uid,.int .i64 x_.Gid,.int .i64 x_.Time,.int .i64 x_.Size,.slice A1_7 x_.Data.length c1_7,.string ⟨x_.Target.toArray⟩,.int .i64 x_.Dev,.slice A1_10 x_.Attrs.length c1_10] 44] w161:=H
         replace H:=(H.pull 1 rfl)
         obtain ⟨F162,hse162,hFn162,hcl162⟩:=St.call [rowI rU8 5 A157 c157 b2] H
         refine Sd (i:=8) ⟨H.has,H.blk 2 rfl⟩ (Cl (some 31) 32 #[.slice A157 b2.length c157,.slice A156 y_.length c156] Tryd.call32 (manifest_hex_c H.has b2 A157 c157 y_ A156 c156 hs156 hse162 hFn162 h_hex) ?_)
         rintro _ w162 ⟨A162_0,c162_0,mk162,rfl,hS162⟩
         have hsub162:=hS162.sub
         replace H:=hcl162 _ _ _ hS162
         refine Sd (i:=10) ⟨(H.has.sub hsub162),H.blk 2 rfl⟩ (appS (r:=rU8) (some 33) 25 5 1 (.int .u8 0) 25 0 A162_0 (some ⟨g161,0,none⟩) c162_0 1 1 hex [(10:UInt8)] b3 _ H rfl ⟨Tryd.underlying25,by kernel_rfl⟩ rfl (by decide) (by kernel_rfl) (Cs.of_blk (H.blk 1 rfl)) (Rows.u8.2 rfl) rfl h_b3 (by decide) (by decide) ?_)
         intro A163 c163 w163 H
         replace H:=H.drop 1 rfl
         refine Sk hst [11] [0,3,4,5,6,1,7,2,9,8,10,11] [(0,.slice A163 b3.length c163),(3,.pointer (some ⟨g1,0,none⟩)),(5,.slice A_3_122 d.length c_4_122)] ?_
         refine Ed ⟨(H.has.sub hsub162),H.blk 1 rfl⟩ ?_
         refine Lj (b3,A163,c163,mk162) ⟨(Option.some.inj hp131).symm,H,hsub162⟩
       ·refine (Nw (some 32) (fun g => .slice (some ⟨g,0,none⟩) 1 1) [.int .u8 10] 5 H ?_)
        intro g164 w164 H
        refine Sd (i:=2) ⟨H.has,H.blk 3 rfl⟩ (appS (r:=rU8) (some 25) 25 5 1 (.int .u8 0) 25 2 A_1_122 (some ⟨g141,0,none⟩) c_2_122 2 2 b1 [(61:UInt8),(32:UInt8)] b2 _ H rfl ⟨Tryd.underlying25,by kernel_rfl⟩ rfl (by decide) (by kernel_rfl) (Cs.of_blk (H.blk 1 rfl)) (Rows.u8.2 rfl) rfl h_b2 (by decide) (by decide) ?_)
        intro A165 c165 w165 H
        replace H:=H.drop 1 rfl
        replace H:St w F m mm122 [blkI g164 [.int .u8 10] 5,rowI rU8 5 A165 c165 b2,blkI g1 [.string ⟨x_.Path.toArray⟩,.int .i64 x_.Kind,.int .i64 x_.Mode,.int .i64 x_.Uid,.int .i64 x_.Gid,.int .i64 x_.Time,.int .i64 x_.Size,.slice A1_7 x_.Data.length c1_7,.string ⟨x_.Target.toArray⟩,.int .i64 x_.Dev,.slice A1_10 x_.Attrs.length c1_10] 44] w165:=H
        replace H:=(H.pull 1 rfl)
        obtain ⟨F166,hse166,hFn166,hcl166⟩:=St.call [rowI rU8 5 A165 c165 b2] H
        refine Sd (i:=8) ⟨H.has,H.blk 2 rfl⟩ (Cl (some 31) 32 #[.slice A165 b2.length c165,.slice A156 y_.length c156] Tryd.call32 (manifest_hex_c H.has b2 A165 c165 y_ A156 c156 hs156 hse166 hFn166 h_hex) ?_)
        rintro _ w166 ⟨A166_0,c166_0,mk166,rfl,hS166⟩
        have hsub166:=hS166.sub
        replace H:=hcl166 _ _ _ hS166
        refine Sd (i:=10) ⟨(H.has.sub hsub166),H.blk 2 rfl⟩ (appS (r:=rU8) (some 33) 25 5 1 (.int .u8 0) 25 0 A166_0 (some ⟨g164,0,none⟩) c166_0 1 1 hex [(10:UInt8)] b3 _ H rfl ⟨Tryd.underlying25,by kernel_rfl⟩ rfl (by decide) (by kernel_rfl) (Cs.of_blk (H.blk 1 rfl)) (Rows.u8.2 rfl) rfl h_b3 (by decide) (by decide) ?_)
        intro A167 c167 w167 H
        replace H:=H.drop 1 rfl
        refine Sk hst [11] [0,3,4,5,6,1,7,9,2,8,10,11] [(0,.slice A167 b3.length c167),(3,.pointer (some ⟨g1,0,none⟩)),(5,.slice A_3_122 d.length c_4_122)] ?_
        refine Ed ⟨(H.has.sub hsub166),H.blk 1 rfl⟩ ?_
        refine Lj (b3,A167,c167,mk166) ⟨(Option.some.inj hp131).symm,H,hsub166⟩
      ·refine (Nw (some 32) (fun g => .slice (some ⟨g,0,none⟩) 1 1) [.int .u8 10] 5 H ?_)
       intro g168 w168 H
       refine allD2 [2,7] (by kernel_rfl) ⟨H.has,H.blk 3 rfl⟩ ⟨?_,?_,trivial⟩
       ·refine (appS (r:=rU8) (some 25) 25 5 1 (.int .u8 0) 25 2 A_1_122 (some ⟨g141,0,none⟩) c_2_122 2 2 b1 [(61:UInt8),(32:UInt8)] b2 _ H rfl ⟨Tryd.underlying25,by kernel_rfl⟩ rfl (by decide) (by kernel_rfl) (Cs.of_blk (H.blk 1 rfl)) (Rows.u8.2 rfl) rfl h_b2 (by decide) (by decide) ?_)
        intro A170 c170 w170 H
        replace H:=H.drop 1 rfl
        replace H:St w F m mm122 [blkI g168 [.int .u8 10] 5,rowI rU8 5 A170 c170 b2,blkI g1 [.string ⟨x_.Path.toArray⟩,.int .i64 x_.Kind,.int .i64 x_.Mode,.int .i64 x_.Uid,.int .i64 x_.Gid,.int .i64 x_.Time,.int .i64 x_.Size,.slice A1_7 x_.Data.length c1_7,.string ⟨x_.Target.toArray⟩,.int .i64 x_.Dev,.slice A1_10 x_.Attrs.length c1_10] 44] w170:=H
        refine Sd (i:=7) ⟨H.has,H.blk 2 rfl⟩ (sliS (r:=rU8) (some 30) 25 5 A_3_122 c_4_122 d y_ none (some (.int .i64 (if (d.length:Int) < 32 then (d.length:Int) else 32))) 0 (if (d.length:Int) < 32 then (d.length:Int) else 32) hs122_0 (by kernel_rfl) (by kernel_rfl) (.inl ⟨rfl,rfl⟩) (.inr ⟨_,rfl⟩) h_y_ ?_)
        intro A171 c171 hs171
        replace H:=(H.pull 1 rfl)
        obtain ⟨F172,hse172,hFn172,hcl172⟩:=St.call [rowI rU8 5 A170 c170 b2] H
        refine Sd (i:=8) ⟨H.has,H.blk 2 rfl⟩ (Cl (some 31) 32 #[.slice A170 b2.length c170,.slice A171 y_.length c171] Tryd.call32 (manifest_hex_c H.has b2 A170 c170 y_ A171 c171 hs171 hse172 hFn172 h_hex) ?_)
        rintro _ w172 ⟨A172_0,c172_0,mk172,rfl,hS172⟩
        have hsub172:=hS172.sub
        replace H:=hcl172 _ _ _ hS172
        refine Sd (i:=10) ⟨(H.has.sub hsub172),H.blk 2 rfl⟩ (appS (r:=rU8) (some 33) 25 5 1 (.int .u8 0) 25 0 A172_0 (some ⟨g168,0,none⟩) c172_0 1 1 hex [(10:UInt8)] b3 _ H rfl ⟨Tryd.underlying25,by kernel_rfl⟩ rfl (by decide) (by kernel_rfl) (Cs.of_blk (H.blk 1 rfl)) (Rows.u8.2 rfl) rfl h_b3 (by decide) (by decide) ?_)
        intro A173 c173 w173 H
        replace H:=H.drop 1 rfl
        refine Sk hst [11] [0,3,4,5,6,1,9,2,7,8,10,11] [(0,.slice A173 b3.length c173),(3,.pointer (some ⟨g1,0,none⟩)),(5,.slice A_3_122 d.length c_4_122)] ?_
        refine Ed ⟨(H.has.sub hsub172),H.blk 1 rfl⟩ ?_
        refine Lj (b3,A173,c173,mk172) ⟨(Option.some.inj hp131).symm,H,hsub172⟩
       ·refine (sliS (r:=rU8) (some 30) 25 5 A_3_122 c_4_122 d y_ none (some (.int .i64 (if (d.length:Int) < 32 then (d.length:Int) else 32))) 0 (if (d.length:Int) < 32 then (d.length:Int) else 32) hs122_0 (by kernel_rfl) (by kernel_rfl) (.inl ⟨rfl,rfl⟩) (.inr ⟨_,rfl⟩) h_y_ ?_)
        intro A174 c174 hs174
        refine Sd (i:=2) ⟨H.has,H.blk 3 rfl⟩ (appS (r:=rU8) (some 25) 25 5 1 (.int .u8 0) 25 2 A_1_122 (some ⟨g141,0,none⟩) c_2_122 2 2 b1 [(61:UInt8),(32:UInt8)] b2 _ H rfl ⟨Tryd.underlying25,by kernel_rfl⟩ rfl (by decide) (by kernel_rfl) (Cs.of_blk (H.blk 1 rfl)) (Rows.u8.2 rfl) rfl h_b2 (by decide) (by decide) ?_)
        intro A175 c175 w175 H
        replace H:=H.drop 1 rfl
        replace H:=(H.pull 1 rfl)
        obtain ⟨F176,hse176,hFn176,hcl176⟩:=St.call [rowI rU8 5 A175 c175 b2] H
        refine Sd (i:=8) ⟨H.has,H.blk 2 rfl⟩ (Cl (some 31) 32 #[.slice A175 b2.length c175,.slice A174 y_.length c174] Tryd.call32 (manifest_hex_c H.has b2 A175 c175 y_ A174 c174 hs174 hse176 hFn176 h_hex) ?_)
        rintro _ w176 ⟨A176_0,c176_0,mk176,rfl,hS176⟩
        have hsub176:=hS176.sub
        replace H:=hcl176 _ _ _ hS176
        replace H:St w F m mk176 [rowI rU8 5 A176_0 c176_0 hex,blkI g168 [.int .u8 10] 5,blkI g1 [.string ⟨x_.Path.toArray⟩,.int .i64 x_.Kind,.int .i64 x_.Mode,.int .i64 x_.Uid,.int .i64 x_.Gid,.int .i64 x_.Time,.int .i64 x_.Size,.slice A1_7 x_.Data.length c1_7,.string ⟨x_.Target.toArray⟩,.int .i64 x_.Dev,.slice A1_10 x_.Attrs.length c1_10] 44] w176:=H
        refine Sd (i:=10) ⟨(H.has.sub hsub176),H.blk 2 rfl⟩ (appS (r:=rU8) (some 33) 25 5 1 (.int .u8 0) 25 0 A176_0 (some ⟨g168,0,none⟩) c176_0 1 1 hex [(10:UInt8)] b3 _ H rfl ⟨Tryd.underlying25,by kernel_rfl⟩ rfl (by decide) (by kernel_rfl) (Cs.of_blk (H.blk 1 rfl)) (Rows.u8.2 rfl) rfl h_b3 (by decide) (by decide) ?_)
        intro A177 c177 w177 H
        replace H:=H.drop 1 rfl
        refine Sk hst [11] [0,3,4,5,6,1,9,7,2,8,10,11] [(0,.slice A177 b3.length c177),(3,.pointer (some ⟨g1,0,none⟩)),(5,.slice A_3_122 d.length c_4_122)] ?_
        refine Ed ⟨(H.has.sub hsub176),H.blk 1 rfl⟩ ?_
        refine Lj (b3,A177,c177,mk176) ⟨(Option.some.inj hp131).symm,H,hsub176⟩
     ·refine (sliS (r:=rU8) (some 30) 25 5 A_3_122 c_4_122 d y_ none (some (.int .i64 (if (d.length:Int) < 32 then (d.length:Int) else 32))) 0 (if (d.length:Int) < 32 then (d.length:Int) else 32) hs122_0 (by kernel_rfl) (by kernel_rfl) (.inl ⟨rfl,rfl⟩) (.inr ⟨_,rfl⟩) h_y_ ?_)
      intro A178 c178 hs178
      refine allD2 [1,9] (by kernel_rfl) ⟨H.has,H.blk 1 rfl⟩ ⟨?_,?_,trivial⟩
      ·refine (Nw (some 24) (fun g => .slice (some ⟨g,0,none⟩) 2 2) [.int .u8 61,.int .u8 32] 5 H ?_)
       intro g179 w179 H
       refine allD2 [2,9] (by kernel_rfl) ⟨H.has,H.blk 2 rfl⟩ ⟨?_,?_,trivial⟩
       ·refine (appS (r:=rU8) (some 25) 25 5 1 (.int .u8 0) 25 1 A_1_122 (some ⟨g179,0,none⟩) c_2_122 2 2 b1 [(61:UInt8),(32:UInt8)] b2 _ H rfl ⟨Tryd.underlying25,by kernel_rfl⟩ rfl (by decide) (by kernel_rfl) (Cs.of_blk (H.blk 0 rfl)) (Rows.u8.2 rfl) rfl h_b2 (by decide) (by decide) ?_)
        intro A180 c180 w180 H
        replace H:=H.drop 0 rfl
        refine allD2 [8,9] (by kernel_rfl) ⟨H.has,H.blk 1 rfl⟩ ⟨?_,?_,trivial⟩
        ·obtain ⟨F181,hse181,hFn181,hcl181⟩:=St.call [rowI rU8 5 A180 c180 b2] H
         refine (Cl (some 31) 32 #[.slice A180 b2.length c180,.slice A178 y_.length c178] Tryd.call32 (manifest_hex_c H.has b2 A180 c180 y_ A178 c178 hs178 hse181 hFn181 h_hex) ?_)
         rintro _ w181 ⟨A181_0,c181_0,mk181,rfl,hS181⟩
         have hsub181:=hS181.sub
         replace H:=hcl181 _ _ _ hS181
         replace H:St w F m mk181 [rowI rU8 5 A181_0 c181_0 hex,blkI g1 [.string ⟨x_.Path.toArray⟩,.int .i64 x_.Kind,.int .i64 x_.Mode,.int .i64 x_.Uid,.int .i64 x_.Gid,.int .i64 x_.Time,.int .i64 x_.Size,.slice A1_7 x_.Data.length c1_7,.string ⟨x_.Target.toArray⟩,.int .i64 x_.Dev,.slice A1_10 x_.Attrs.length c1_10] 44] w181:=H
         refine Sd (i:=9) ⟨(H.has.sub hsub181),H.blk 1 rfl⟩ (Nw (some 32) (fun g => .slice (some ⟨g,0,none⟩) 1 1) [.int .u8 10] 5 H ?_)
         intro g182 w182 H
         refine Sd (i:=10) ⟨(H.has.sub hsub181),H.blk 2 rfl⟩ (appS (r:=rU8) (some 33) 25 5 1 (.int .u8 0) 25 1 A181_0 (some ⟨g182,0,none⟩) c181_0 1 1 hex [(10:UInt8)] b3 _ H rfl ⟨Tryd.underlying25,by kernel_rfl⟩ rfl (by decide) (by kernel_rfl) (Cs.of_blk (H.blk 0 rfl)) (Rows.u8.2 rfl) rfl h_b3 (by decide) (by decide) ?_)
         intro A183 c183 w183 H
         replace H:=H.drop 0 rfl
         refine Sk hst [11] [0,3,4,5,6,7,1,2,8,9,10,11] [(0,.slice A183 b3.length c183),(3,.pointer (some ⟨g1,0,none⟩)),(5,.slice A_3_122 d.length c_4_122)] ?_
         refine Ed ⟨(H.has.sub hsub181),H.blk 1 rfl⟩ ?_
         refine Lj (b3,A183,c183,mk181) ⟨(Option.some.inj hp131).symm,H,hsub181⟩
        ·refine (Nw (some 32) (fun g => .slice (some ⟨g,0,none⟩) 1 1) [.int .u8 10] 5 H ?_)
         intro g184 w184 H
         replace H:=(H.pull 1 rfl)
         obtain ⟨F185,hse185,hFn185,hcl185⟩:=St.call [rowI rU8 5 A180 c180 b2] H
         refine Sd (i:=8) ⟨H.has,H.blk 2 rfl⟩ (Cl (some 31) 32 #[.slice A180 b2.length c180,.slice A178 y_.length c178] Tryd.call32 (manifest_hex_c H.has b2 A180 c180 y_ A178 c178 hs178 hse185 hFn185 h_hex) ?_)
         rintro _ w185 ⟨A185_0,c185_0,mk185,rfl,hS185⟩
         have hsub185:=hS185.sub
         replace H:=hcl185 _ _ _ hS185
         replace H:St w F m mk185 [rowI rU8 5 A185_0 c185_0 hex,blkI g184 [.int .u8 10] 5,blkI g1 [.string ⟨x_.Path.toArray⟩,.int .i64 x_.Kind,.int .i64 x_.Mode,.int .i64 x_.Uid,.int .i64 x_.Gid,.int .i64 x_.Time,.int .i64 x_.Size,.slice A1_7 x_.Data.length c1_7,.string ⟨x_.Target.toArray⟩,.int .i64 x_.Dev,.slice A1_10 x_.Attrs.length c1_10] 44] w185:=H
         refine Sd (i:=10) ⟨(H.has.sub hsub185),H.blk 2 rfl⟩ (appS (r:=rU8) (some 33) 25 5 1 (.int .u8 0) 25 0 A185_0 (some ⟨g184,0,none⟩) c185_0 1 1 hex [(10:UInt8)] b3 _ H rfl ⟨Tryd.underlying25,by kernel_rfl⟩ rfl (by decide) (by kernel_rfl) (Cs.of_blk (H.blk 1 rfl)) (Rows.u8.2 rfl) rfl h_b3 (by decide) (by decide) ?_)
         intro A186 c186 w186 H
         replace H:=H.drop 1 rfl
         refine Sk hst [11] [0,3,4,5,6,7,1,2,9,8,10,11] [(0,.slice A186 b3.length c186),(3,.pointer (some ⟨g1,0,none⟩)),(5,.slice A_3_122 d.length c_4_122)] ?_
         refine Ed ⟨(H.has.sub hsub185),H.blk 1 rfl⟩ ?_
         refine Lj (b3,A186,c186,mk185) ⟨(Option.some.inj hp131).symm,H,hsub185⟩
       ·refine (Nw (some 32) (fun g => .slice (some ⟨g,0,none⟩) 1 1) [.int .u8 10] 5 H ?_)
        intro g187 w187 H
        refine Sd (i:=2) ⟨H.has,H.blk 3 rfl⟩ (appS (r:=rU8) (some 25) 25 5 1 (.int .u8 0) 25 2 A_1_122 (some ⟨g179,0,none⟩) c_2_122 2 2 b1 [(61:UInt8),(32:UInt8)] b2 _ H rfl ⟨Tryd.underlying25,by kernel_rfl⟩ rfl (by decide) (by kernel_rfl) (Cs.of_blk (H.blk 1 rfl)) (Rows.u8.2 rfl) rfl h_b2 (by decide) (by decide) ?_)
        intro A188 c188 w188 H
        replace H:=H.drop 1 rfl
        replace H:=(H.pull 1 rfl)
        obtain ⟨F189,hse189,hFn189,hcl189⟩:=St.call [rowI rU8 5 A188 c188 b2] H
        refine Sd (i:=8) ⟨H.has,H.blk 2 rfl⟩ (Cl (some 31) 32 #[.slice A188 b2.length c188,.slice A178 y_.length c178] Tryd.call32 (manifest_hex_c H.has b2 A188 c188 y_ A178 c178 hs178 hse189 hFn189 h_hex) ?_)
        rintro _ w189 ⟨A189_0,c189_0,mk189,rfl,hS189⟩
        have hsub189:=hS189.sub
        replace H:=hcl189 _ _ _ hS189
        replace H:St w F m mk189 [rowI rU8 5 A189_0 c189_0 hex,blkI g187 [.int .u8 10] 5,blkI g1 [.string ⟨x_.Path.toArray⟩,.int .i64 x_.Kind,.int .i64 x_.Mode,.int .i64 x_.Uid,.int .i64 x_.Gid,.int .i64 x_.Time,.int .i64 x_.Size,.slice A1_7 x_.Data.length c1_7,.string ⟨x_.Target.toArray⟩,.int .i64 x_.Dev,.slice A1_10 x_.Attrs.length c1_10] 44] w189:=H
        refine Sd (i:=10) ⟨(H.has.sub hsub189),H.blk 2 rfl⟩ (appS (r:=rU8) (some 33) 25 5 1 (.int .u8 0) 25 0 A189_0 (some ⟨g187,0,none⟩) c189_0 1 1 hex [(10:UInt8)] b3 _ H rfl ⟨Tryd.underlying25,by kernel_rfl⟩ rfl (by decide) (by kernel_rfl) (Cs.of_blk (H.blk 1 rfl)) (Rows.u8.2 rfl) rfl h_b3 (by decide) (by decide) ?_)
        intro A190 c190 w190 H
        replace H:=H.drop 1 rfl
        refine Sk hst [11] [0,3,4,5,6,7,1,9,2,8,10,11] [(0,.slice A190 b3.length c190),(3,.pointer (some ⟨g1,0,none⟩)),(5,.slice A_3_122 d.length c_4_122)] ?_
        refine Ed ⟨(H.has.sub hsub189),H.blk 1 rfl⟩ ?_
        refine Lj (b3,A190,c190,mk189) ⟨(Option.some.inj hp131).symm,H,hsub189⟩
      ·refine (Nw (some 32) (fun g => .slice (some ⟨g,0,none⟩) 1 1) [.int .u8 10] 5 H ?_)
       intro g191 w191 H
       refine Sd (i:=1) ⟨H.has,H.blk 2 rfl⟩ (Nw (some 24) (fun g => .slice (some ⟨g,0,none⟩) 2 2) [.int .u8 61,.int .u8 32] 5 H ?_)
       intro g192 w192 H
       refine Sd (i:=2) ⟨H.has,H.blk 3 rfl⟩ (appS (r:=rU8) (some 25) 25 5 1 (.int .u8 0) 25 2 A_1_122 (some ⟨g192,0,none⟩) c_2_122 2 2 b1 [(61:UInt8),(32:UInt8)] b2 _ H rfl ⟨Tryd.underlying25,by kernel_rfl⟩ rfl (by decide) (by kernel_rfl) (Cs.of_blk (H.blk 0 rfl)) (Rows.u8.2 rfl) rfl h_b2 (by decide) (by decide) ?_)
       intro A193 c193 w193 H
       replace H:=H.drop 0 rfl
       replace H:St w F m mm122 [blkI g191 [.int .u8 10] 5,rowI rU8 5 A193 c193 b2,blkI g1 [.string ⟨x_.Path.toArray⟩,.int .i64 x_.Kind,.int .i64 x_.Mode,.int .i64 x_.Uid,.int .i64 x_.Gid,.int .i64 x_.Time,.int .i64 x_.Size,.slice A1_7 x_.Data.length c1_7,.string ⟨x_.Target.toArray⟩,.int .i64 x_.Dev,.slice A1_10 x_.Attrs.length c1_10] 44] w193:=H
       replace H:=(H.pull 1 rfl)
       obtain ⟨F194,hse194,hFn194,hcl194⟩:=St.call [rowI rU8 5 A193 c193 b2] H
       refine Sd (i:=8) ⟨H.has,H.blk 2 rfl⟩ (Cl (some 31) 32 #[.slice A193 b2.length c193,.slice A178 y_.length c178] Tryd.call32 (manifest_hex_c H.has b2 A193 c193 y_ A178 c178 hs178 hse194 hFn194 h_hex) ?_)
       rintro _ w194 ⟨A194_0,c194_0,mk194,rfl,hS194⟩
       have hsub194:=hS194.sub
       replace H:=hcl194 _ _ _ hS194
       refine Sd (i:=10) ⟨(H.has.sub hsub194),H.blk 2 rfl⟩ (appS (r:=rU8) (some 33) 25 5 1 (.int .u8 0) 25 0 A194_0 (some ⟨g191,0,none⟩) c194_0 1 1 hex [(10:UInt8)] b3 _ H rfl ⟨Tryd.underlying25,by kernel_rfl⟩ rfl (by decide) (by kernel_rfl) (Cs.of_blk (H.blk 1 rfl)) (Rows.u8.2 rfl) rfl h_b3 (by decide) (by decide) ?_)
       intro A195 c195 w195 H
       replace H:=H.drop 1 rfl
       refine Sk hst [11] [0,3,4,5,6,7,9,1,2,8,10,11] [(0,.slice A195 b3.length c195),(3,.pointer (some ⟨g1,0,none⟩)),(5,.slice A_3_122 d.length c_4_122)] ?_
       refine Ed ⟨(H.has.sub hsub194),H.blk 1 rfl⟩ ?_
       refine Lj (b3,A195,c195,mk194) ⟨(Option.some.inj hp131).symm,H,hsub194⟩
     ·refine (Nw (some 32) (fun g => .slice (some ⟨g,0,none⟩) 1 1) [.int .u8 10] 5 H ?_)
      intro g196 w196 H
      refine allD2 [1,7] (by kernel_rfl) ⟨H.has,H.blk 2 rfl⟩ ⟨?_,?_,trivial⟩
      ·refine (Nw (some 24) (fun g => .slice (some ⟨g,0,none⟩) 2 2) [.int .u8 61,.int .u8 32] 5 H ?_)
       intro g198 w198 H
       refine allD2 [2,7] (by kernel_rfl) ⟨H.has,H.blk 3 rfl⟩ ⟨?_,?_,trivial⟩
       ·replace H:St w F m mm122 [blkI g198 [.int .u8 61,.int .u8 32] 5,blkI g196 [.int .u8 10] 5,rowI rU8 5 A_1_122 c_2_122 b1,blkI g1 [.string ⟨x_.Path.toArray⟩,.int .i64 x_.Kind,.int .i64 x_.Mode,.int .i64 x_.Uid,.int .i64 x_.Gid,.int .i64 x_.Time,.int .i64 x_.Size,.slice A1_7 x_.Data.length c1_7,.string ⟨x_.Target.toArray⟩,.int .i64 x_.Dev,.slice A1_10 x_.Attrs.length c1_10] 44] w198:=H
        refine (appS (r:=rU8) (some 25) 25 5 1 (.int .u8 0) 25 2 A_1_122 (some ⟨g198,0,none⟩) c_2_122 2 2 b1 [(61:UInt8),(32:UInt8)] b2 _ H rfl ⟨Tryd.underlying25,by kernel_rfl⟩ rfl (by decide) (by kernel_rfl) (Cs.of_blk (H.blk 0 rfl)) (Rows.u8.2 rfl) rfl h_b2 (by decide) (by decide) ?_)
        intro A200 c200 w200 H
        replace H:=H.drop 0 rfl
        refine Sd (i:=7) ⟨H.has,H.blk 2 rfl⟩ (sliS (r:=rU8) (some 30) 25 5 A_3_122 c_4_122 d y_ none (some (.int .i64 (if (d.length:Int) < 32 then (d.length:Int) else 32))) 0 (if (d.length:Int) < 32 then (d.length:Int) else 32) hs122_0 (by kernel_rfl) (by kernel_rfl) (.inl ⟨rfl,rfl⟩) (.inr ⟨_,rfl⟩) h_y_ ?_)
        intro A201 c201 hs201
        replace H:=(H.pull 1 rfl)
        obtain ⟨F202,hse202,hFn202,hcl202⟩:=St.call [rowI rU8 5 A200 c200 b2] H
        refine Sd (i:=8) ⟨H.has,H.blk 2 rfl⟩ (Cl (some 31) 32 #[.slice A200 b2.length c200,.slice A201 y_.length c201] Tryd.call32 (manifest_hex_c H.has b2 A200 c200 y_ A201 c201 hs201 hse202 hFn202 h_hex) ?_)
        rintro _ w202 ⟨A202_0,c202_0,mk202,rfl,hS202⟩
        have hsub202:=hS202.sub
        replace H:=hcl202 _ _ _ hS202
        refine Sd (i:=10) ⟨(H.has.sub hsub202),H.blk 2 rfl⟩ (appS (r:=rU8) (some 33) 25 5 1 (.int .u8 0) 25 0 A202_0 (some ⟨g196,0,none⟩) c202_0 1 1 hex [(10:UInt8)] b3 _ H rfl ⟨Tryd.underlying25,by kernel_rfl⟩ rfl (by decide) (by kernel_rfl) (Cs.of_blk (H.blk 1 rfl)) (Rows.u8.2 rfl) rfl h_b3 (by decide) (by decide) ?_)
        intro A203 c203 w203 H
        replace H:=H.drop 1 rfl
        refine Sk hst [11] [0,3,4,5,6,9,1,2,7,8,10,11] [(0,.slice A203 b3.length c203),(3,.pointer (some ⟨g1,0,none⟩)),(5,.slice A_3_122 d.length c_4_122)] ?_
        refine Ed ⟨(H.has.sub hsub202),H.blk 1 rfl⟩ ?_
        refine Lj (b3,A203,c203,mk202) ⟨(Option.some.inj hp131).symm,H,hsub202⟩
       ·refine (sliS (r:=rU8) (some 30) 25 5 A_3_122 c_4_122 d y_ none (some (.int .i64 (if (d.length:Int) < 32 then (d.length:Int) else 32))) 0 (if (d.length:Int) < 32 then (d.length:Int) else 32) hs122_0 (by kernel_rfl) (by kernel_rfl) (.inl ⟨rfl,rfl⟩) (.inr ⟨_,rfl⟩) h_y_ ?_)
        intro A204 c204 hs204
        refine Sd (i:=2) ⟨H.has,H.blk 3 rfl⟩ (appS (r:=rU8) (some 25) 25 5 1 (.int .u8 0) 25 2 A_1_122 (some ⟨g198,0,none⟩) c_2_122 2 2 b1 [(61:UInt8),(32:UInt8)] b2 _ H rfl ⟨Tryd.underlying25,by kernel_rfl⟩ rfl (by decide) (by kernel_rfl) (Cs.of_blk (H.blk 0 rfl)) (Rows.u8.2 rfl) rfl h_b2 (by decide) (by decide) ?_)
        intro A205 c205 w205 H
        replace H:=H.drop 0 rfl
        replace H:St w F m mm122 [blkI g196 [.int .u8 10] 5,rowI rU8 5 A205 c205 b2,blkI g1 [.string ⟨x_.Path.toArray⟩,.int .i64 x_.Kind,.int .i64 x_.Mode,.int .i64 x_.Uid,.int .i64 x_.Gid,.int .i64 x_.Time,.int .i64 x_.Size,.slice A1_7 x_.Data.length c1_7,.string ⟨x_.Target.toArray⟩,.int .i64 x_.Dev,.slice A1_10 x_.Attrs.length c1_10] 44] w205:=H
        replace H:=(H.pull 1 rfl)
        obtain ⟨F206,hse206,hFn206,hcl206⟩:=St.call [rowI rU8 5 A205 c205 b2] H
        refine Sd (i:=8) ⟨H.has,H.blk 2 rfl⟩ (Cl (some 31) 32 #[.slice A205 b2.length c205,.slice A204 y_.length c204] Tryd.call32 (manifest_hex_c H.has b2 A205 c205 y_ A204 c204 hs204 hse206 hFn206 h_hex) ?_)
        rintro _ w206 ⟨A206_0,c206_0,mk206,rfl,hS206⟩
        have hsub206:=hS206.sub
        replace H:=hcl206 _ _ _ hS206
        refine Sd (i:=10) ⟨(H.has.sub hsub206),H.blk 2 rfl⟩ (appS (r:=rU8) (some 33) 25 5 1 (.int .u8 0) 25 0 A206_0 (some ⟨g196,0,none⟩) c206_0 1 1 hex [(10:UInt8)] b3 _ H rfl ⟨Tryd.underlying25,by kernel_rfl⟩ rfl (by decide) (by kernel_rfl) (Cs.of_blk (H.blk 1 rfl)) (Rows.u8.2 rfl) rfl h_b3 (by decide) (by decide) ?_)
        intro A207 c207 w207 H
        replace H:=H.drop 1 rfl
        refine Sk hst [11] [0,3,4,5,6,9,1,7,2,8,10,11] [(0,.slice A207 b3.length c207),(3,.pointer (some ⟨g1,0,none⟩)),(5,.slice A_3_122 d.length c_4_122)] ?_
        refine Ed ⟨(H.has.sub hsub206),H.blk 1 rfl⟩ ?_
        refine Lj (b3,A207,c207,mk206) ⟨(Option.some.inj hp131).symm,H,hsub206⟩
      ·refine (sliS (r:=rU8) (some 30) 25 5 A_3_122 c_4_122 d y_ none (some (.int .i64 (if (d.length:Int) < 32 then (d.length:Int) else 32))) 0 (if (d.length:Int) < 32 then (d.length:Int) else 32) hs122_0 (by kernel_rfl) (by kernel_rfl) (.inl ⟨rfl,rfl⟩) (.inr ⟨_,rfl⟩) h_y_ ?_)
       intro A208 c208 hs208
       refine Sd (i:=1) ⟨H.has,H.blk 2 rfl⟩ (Nw (some 24) (fun g => .slice (some ⟨g,0,none⟩) 2 2) [.int .u8 61,.int .u8 32] 5 H ?_)
       intro g209 w209 H
       refine Sd (i:=2) ⟨H.has,H.blk 3 rfl⟩ (appS (r:=rU8) (some 25) 25 5 1 (.int .u8 0) 25 2 A_1_122 (some ⟨g209,0,none⟩) c_2_122 2 2 b1 [(61:UInt8),(32:UInt8)] b2 _ H rfl ⟨Tryd.underlying25,by kernel_rfl⟩ rfl (by decide) (by kernel_rfl) (Cs.of_blk (H.blk 0 rfl)) (Rows.u8.2 rfl) rfl h_b2 (by decide) (by decide) ?_)
       intro A210 c210 w210 H
       replace H:=H.drop 0 rfl
       replace H:St w F m mm122 [blkI g196 [.int .u8 10] 5,rowI rU8 5 A210 c210 b2,blkI g1 [.string ⟨x_.Path.toArray⟩,.int .i64 x_.Kind,.int .i64 x_.Mode,.int .i64 x_.Uid,.int .i64 x_.Gid,.int .i64 x_.Time,.int .i64 x_.Size,.slice A1_7 x_.Data.length c1_7,.string ⟨x_.Target.toArray⟩,.int .i64 x_.Dev,.slice A1_10 x_.Attrs.length c1_10] 44] w210:=H
       replace H:=(H.pull 1 rfl)
       obtain ⟨F211,hse211,hFn211,hcl211⟩:=St.call [rowI rU8 5 A210 c210 b2] H
       refine Sd (i:=8) ⟨H.has,H.blk 2 rfl⟩ (Cl (some 31) 32 #[.slice A210 b2.length c210,.slice A208 y_.length c208] Tryd.call32 (manifest_hex_c H.has b2 A210 c210 y_ A208 c208 hs208 hse211 hFn211 h_hex) ?_)
       rintro _ w211 ⟨A211_0,c211_0,mk211,rfl,hS211⟩
       have hsub211:=hS211.sub
       replace H:=hcl211 _ _ _ hS211
       refine Sd (i:=10) ⟨(H.has.sub hsub211),H.blk 2 rfl⟩ (appS (r:=rU8) (some 33) 25 5 1 (.int .u8 0) 25 0 A211_0 (some ⟨g196,0,none⟩) c211_0 1 1 hex [(10:UInt8)] b3 _ H rfl ⟨Tryd.underlying25,by kernel_rfl⟩ rfl (by decide) (by kernel_rfl) (Cs.of_blk (H.blk 1 rfl)) (Rows.u8.2 rfl) rfl h_b3 (by decide) (by decide) ?_)
       intro A212 c212 w212 H
       replace H:=H.drop 1 rfl
       refine Sk hst [11] [0,3,4,5,6,9,7,1,2,8,10,11] [(0,.slice A212 b3.length c212),(3,.pointer (some ⟨g1,0,none⟩)),(5,.slice A_3_122 d.length c_4_122)] ?_
       refine Ed ⟨(H.has.sub hsub211),H.blk 1 rfl⟩ ?_
       refine Lj (b3,A212,c212,mk211) ⟨(Option.some.inj hp131).symm,H,hsub211⟩
    rintro ⟨b2,A_1_132,c_2_132,mm132⟩ wj131 ⟨hy131,H,hsub132⟩
    try dsimp only at hy131
    try dsimp only at H
    try dsimp only at hsub132
    rw [hy131] at hb_121
    refine Sg 6 [.op [1,0,1,0,0,1,1] 4,.le 1,.bl 0,.le 0,.co [1,1]] [(0,.slice A_1_132 b2.length c_2_132),(3,.pointer (some ⟨g1,0,none⟩)),(18,.slice A_3_122 d.length c_4_122),(21,.int .i64 (if (d.length:Int) < 32 then (d.length:Int) else 32))] ?_
    obtain ⟨y_1,h_y_1,hb_121⟩:=bindE hb_121
    refine st (sliS (r:=rU8) (some 22) 25 5 A_3_122 c_4_122 d y_1 (some (.int .i64 (if (d.length:Int) < 32 then (d.length:Int) else 32))) none (if (d.length:Int) < 32 then (d.length:Int) else 32) (d.length:Int) (hs122_0.mono hsub132) (by kernel_rfl) (by kernel_rfl) (.inr ⟨_,rfl⟩) (.inl ⟨rfl,rfl⟩) h_y_1 ?_)
    intro A213 c213 hs213
    refine Sg 2 [.le 1,.bl 0,.le 0,.co [1,1]] [(0,.slice A_1_132 b2.length c_2_132),(3,.pointer (some ⟨g1,0,none⟩)),(5,.slice A213 y_1.length c213)] ?_
    refine Lq (nk121,b2,y_1,A_1_132,c_2_132,A213,c213,mm132) (Nat.lt_succ_self _) ⟨hnx121 _ (Option.some.inj hb_121).symm,H,(hsub122.trans hsub132),hs213⟩
   ·rw [hb124]
    have p124:=of_decide_eq_false hb124
    refine Sg 2 [.le 0,.co [1,1]] [(0,.slice A_1_122 b1.length c_2_122),(3,.pointer (some ⟨g1,0,none⟩))] ?_
    refine leR_up (k':=[]) (by rfl) ?_
    refine Lj (b1,A_1_122,c_2_122,mm122) ⟨(hfin121 _ (Option.some.inj hb_121).symm).symm,H,hsub122⟩
  ·rw [hb123]
   refine Sg 7 [.le 0,.co [1,1]] [(0,.slice A_1_122 b1.length c_2_122),(3,.pointer (some ⟨g1,0,none⟩))] ?_
   refine leR_up (k':=[]) (by rfl) ?_
   refine Lj (b1,A_1_122,c_2_122,mm122) ⟨(hfin121 _ (Option.some.inj hb_121).symm).symm,H,hsub122⟩
 rintro ⟨b1,A_1_98,c_2_98,mm98⟩ wj97 ⟨hy97,H,hsub98⟩
 try dsimp only at hy97
 try dsimp only at H
 try dsimp only at hsub98
 rw [hy97] at hf
 refine Sg 4 [.op [1,1,0,0] 1,.co [1,1,0,1],.co [1,1,1]] [(0,.slice A_1_98 b1.length c_2_98),(3,.pointer (some ⟨g1,0,none⟩)),(34,.pointer (some ⟨g1,10,none⟩))] ?_
 refine st (Lr (some 35) 42 ⟨g1,10,none⟩ (.slice A1_10 x_.Attrs.length c1_10) (H.cellB 1 rfl rfl) ?_)
 refine Sg 3 [.co [1,1,0,1],.co [1,1,1]] [(0,.slice A_1_98 b1.length c_2_98),(3,.pointer (some ⟨g1,0,none⟩)),(35,.slice A1_10 x_.Attrs.length c1_10),(36,.int .i64 (x_.Attrs.length:Int)),(37,.int .i64 0)] ?_
 obtain ⟨y354,hp354,hf⟩:=bindE hf
 refine joinR 0 (fun (x:(List UInt8) × Option Addr × Nat × Mem) => [(0,.slice (x.2.1) x.1.length (x.2.2.1))]) (fun (x:(List UInt8) × Option Addr × Nat × Mem) (wj354:World) => y354=x.1 ∧ St w F m x.2.2.2 [rowI rU8 5 (x.2.1) (x.2.2.1) x.1] wj354 ∧ Sub mm98 x.2.2.2) (by kernel_rfl) ?_ ?_
 ·refine Sg 1 [.co [1,1,0,1,0],.bl 2,.le 0,.co [1,1,1]] [(0,.slice A_1_98 b1.length c_2_98),(3,.pointer (some ⟨g1,0,none⟩)),(35,.slice A1_10 x_.Attrs.length c1_10),(36,.int .i64 (x_.Attrs.length:Int)),(37,.int .i64 0)] ?_
  obtain ⟨nn394,hR394⟩:=loopO_iff.1 hp354
  refine Lp 1 (fun (x:Nat × (List UInt8) × Nat × Option Addr × Nat × Mem) => [(0,.slice (x.2.2.2.1) x.2.1.length (x.2.2.2.2.1)),(3,.pointer (some ⟨g1,0,none⟩)),(35,.slice A1_10 x_.Attrs.length c1_10),(36,.int .i64 (x_.Attrs.length:Int)),(37,.int .i64 (x.2.2.1:Int))]) (fun (x:Nat × (List UInt8) × Nat × Option Addr × Nat × Mem) (wl394:World) => iter (fun s => manifest_rest_l2 x_ s.1 s.2) x.1 (x.2.1,x.2.2.1)=some y354 ∧ St w F m x.2.2.2.2.2 [rowI rU8 5 (x.2.2.2.1) (x.2.2.2.2.1) x.2.1,blkI g1 [.string ⟨x_.Path.toArray⟩,.int .i64 x_.Kind,.int .i64 x_.Mode,.int .i64 x_.Uid,.int .i64 x_.Gid,.int .i64 x_.Time,.int .i64 x_.Size,.slice A1_7 x_.Data.length c1_7,.string ⟨x_.Target.toArray⟩,.int .i64 x_.Dev,.slice A1_10 x_.Attrs.length c1_10] 44] wl394 ∧ Sub mm98 x.2.2.2.2.2) (fun (x:Nat × (List UInt8) × Nat × Option Addr × Nat × Mem) => x.1) (nn394,b1,0,A_1_98,c_2_98,mm98) ?_ ?_
  ·exact ⟨hR394,H,(Sub.refl _)⟩
  rintro ⟨n394,b4,t,A_1_395,c_2_395,mm395⟩ wl394 ⟨hR394,H,hsub395⟩
  try dsimp only at hR394
  try dsimp only at H
  try dsimp only at hsub395
  obtain ⟨nk394,q394,rfl,hb_394,hnx394,hfin394⟩:=iterE hR394
  replace hb_394:manifest_rest_l2 x_ b4 t=some q394:=hb_394
  unfold manifest_rest_l2 at hb_394
  refine Sg 5 [.co [1,1,0,1,0,0,1,0],.co [1,1,0,1,0,0,1,1],.le 1,.bl 2,.le 0,.co [1,1,1]] [(0,.slice A_1_395 b4.length c_2_395),(3,.pointer (some ⟨g1,0,none⟩)),(35,.slice A1_10 x_.Attrs.length c1_10),(36,.int .i64 (x_.Attrs.length:Int)),(37,.int .i64 (t:Int)),(38,.bool (decide ((t:Int) < (x_.Attrs.length:Int))))] ?_
  rcases condT hb_394 with ⟨hb396,hb_394⟩ | ⟨hb396,hb_394⟩
  ·rw [hb396]
   have p396:=of_decide_eq_true hb396
   refine Sg 6 [.op [1,1,0,1,0,0,1,1,0,0,0] 0,.co [1,1,0,1,0,0,1,1,0,0,1],.bl 3,.co [1,1,0,1,0,0,1,1,1],.le 1,.bl 2,.le 0,.co [1,1,1]] [(0,.slice A_1_395 b4.length c_2_395),(3,.pointer (some ⟨g1,0,none⟩)),(35,.slice A1_10 x_.Attrs.length c1_10),(36,.int .i64 (x_.Attrs.length:Int)),(37,.int .i64 (t:Int))] ?_
   obtain ⟨x_1,h_x_1,hb_394⟩:=bindE hb_394
   obtain ⟨ad398,_,ea398,⟨A398_1,c398_1,rfl,hl398_0,hs398_1⟩,hc398⟩:=(s1_10.mono (hsub98.trans hsub395)).at_ h_x_1 (by decide)
   refine st (Ix (some 39) 42 46 2 A1_10 ad398 x_.Attrs.length c1_10 .i64 (t:Int) ea398 (by omega) (by have:=(List.getElem?_eq_some_iff.1 h_x_1).1; omega) ?_)
   refine st (La (some 40) 46 (ad398.add (t * 2)) [.string ⟨x_1.Name.toArray⟩,.slice A398_1 x_1.Value.length c398_1] (fun j v hj => H.cellI (hc398 j v hj)) ?_)
   refine st (Nw (some 7) (fun g => .pointer (some ⟨g,0,none⟩)) [.string ⟨([]:List UInt8).toArray⟩,.slice none 0 0] 46 H ?_)
   intro g399 w399 H
   replace H:St w F m mm395 [blkI g399 [.string ⟨([]:List UInt8).toArray⟩,.slice none 0 0] 46,rowI rU8 5 A_1_395 c_2_395 b4,blkI g1 [.string ⟨x_.Path.toArray⟩,.int .i64 x_.Kind,.int .i64 x_.Mode,.int .i64 x_.Uid,.int .i64 x_.Gid,.int .i64 x_.Time,.int .i64 x_.Size,.slice A1_7 x_.Data.length c1_7,.string ⟨x_.Target.toArray⟩,.int .i64 x_.Dev,.slice A1_10 x_.Attrs.length c1_10] 44] w399:=H
   refine st (Sa none 46 0 g399 0 [.string ⟨x_1.Name.toArray⟩,.slice A398_1 x_1.Value.length c398_1] [.string ⟨x_1.Name.toArray⟩,.slice A398_1 x_1.Value.length c398_1] H rfl (by rfl) (of_decide_eq_true rfl) rfl ?_)
   intro w400 H
   refine Sg 5 [.op [1,1,0,1,0,0,1,1,0,0,1,0,0] 1,.co [1,1,0,1,0,0,1,1,0,0,1,0,1],.co [1,1,0,1,0,0,1,1,0,0,1,1],.bl 3,.co [1,1,0,1,0,0,1,1,1],.le 1,.bl 2,.le 0,.co [1,1,1]] [(0,.slice A_1_395 b4.length c_2_395),(3,.pointer (some ⟨g1,0,none⟩)),(7,.pointer (some ⟨g399,0,none⟩)),(35,.slice A1_10 x_.Attrs.length c1_10),(36,.int .i64 (x_.Attrs.length:Int)),(37,.int .i64 (t:Int)),(41,.pointer (some ⟨g1,1,none⟩))] ?_
   refine st (Lr (some 42) 3 ⟨g1,1,none⟩ (.int .i64 x_.Kind) (H.cellB 2 rfl rfl) ?_)
   refine Sg 2 [.co [1,1,0,1,0,0,1,1,0,0,1,0,1],.co [1,1,0,1,0,0,1,1,0,0,1,1],.bl 3,.co [1,1,0,1,0,0,1,1,1],.le 1,.bl 2,.le 0,.co [1,1,1]] [(0,.slice A_1_395 b4.length c_2_395),(3,.pointer (some ⟨g1,0,none⟩)),(7,.pointer (some ⟨g399,0,none⟩)),(35,.slice A1_10 x_.Attrs.length c1_10),(36,.int .i64 (x_.Attrs.length:Int)),(37,.int .i64 (t:Int)),(43,.bool (x_.Kind == 6))] ?_
   rcases condT hb_394 with ⟨hb401,hb_394⟩ | ⟨hb401,hb_394⟩
   ·rw [hb401]
    refine Sg 2 [.le 0,.co [1,1,1]] [(0,.slice A_1_395 b4.length c_2_395)] ?_
    refine leR_up (k':=[]) (by rfl) ?_
    refine Lj (b4,A_1_395,c_2_395,mm395) ⟨(hfin394 _ (Option.some.inj hb_394).symm).symm,(St.takeN 1 (H.pull 1 rfl)),hsub395⟩
   ·rw [hb401]
    refine Sg 3 [.co [1,1,0,1,0,0,1,1,0,0,1,1,0],.co [1,1,0,1,0,0,1,1,0,0,1,1,1],.bl 3,.co [1,1,0,1,0,0,1,1,1],.le 1,.bl 2,.le 0,.co [1,1,1]] [(0,.slice A_1_395 b4.length c_2_395),(3,.pointer (some ⟨g1,0,none⟩)),(7,.pointer (some ⟨g399,0,none⟩)),(35,.slice A1_10 x_.Attrs.length c1_10),(36,.int .i64 (x_.Attrs.length:Int)),(37,.int .i64 (t:Int))] ?_
    obtain ⟨b5,h_b5,hb_394⟩:=bindE hb_394
    obtain ⟨quote,h_quote,hb_394⟩:=bindE hb_394
    obtain ⟨b6,h_b6,hb_394⟩:=bindE hb_394
    have hst:statB (bodyOf Tryd.f19) [1,1,0,1,0,0,1,1,0,0,1,1,0]=true:=by kernel_rfl
    refine Dw (fun w' => Has mm395 w' ∧ w'.heap[g399]?=some (.cells [.string ⟨x_1.Name.toArray⟩,.slice A398_1 x_1.Value.length c398_1].toArray 46 (0,0)) ∧ w'.heap[g1]?=some (.cells [.string ⟨x_.Path.toArray⟩,.int .i64 x_.Kind,.int .i64 x_.Mode,.int .i64 x_.Uid,.int .i64 x_.Gid,.int .i64 x_.Time,.int .i64 x_.Size,.slice A1_7 x_.Data.length c1_7,.string ⟨x_.Target.toArray⟩,.int .i64 x_.Dev,.slice A1_10 x_.Attrs.length c1_10].toArray 44 (0,0))) H ?_
    intro w406 H
    refine Sk hst [0,3] [0,3] [(3,.pointer (some ⟨g1,0,none⟩)),(7,.pointer (some ⟨g399,0,none⟩)),(35,.slice A1_10 x_.Attrs.length c1_10),(36,.int .i64 (x_.Attrs.length:Int)),(37,.int .i64 (t:Int)),(44,.slice A_1_395 b4.length c_2_395),(47,.pointer (some ⟨g399,0,none⟩))] ?_
    refine Tk (i:=4) (d:=(some 48)) (s:=vS (Instr.loadAt 9 (.pointer (some ⟨g399,0,none⟩)))) (v:=(.string ⟨x_1.Name.toArray⟩)) hst (fun w' hw' => ld_run _ _ _ (by kernel_rfl) (blk_cell hw'.2.1 rfl)) ?_
    replace H:St w F m mm395 [blkI g399 [.string ⟨x_1.Name.toArray⟩,.slice A398_1 x_1.Value.length c398_1] 46,rowI rU8 5 A_1_395 c_2_395 b4,blkI g1 [.string ⟨x_.Path.toArray⟩,.int .i64 x_.Kind,.int .i64 x_.Mode,.int .i64 x_.Uid,.int .i64 x_.Gid,.int .i64 x_.Time,.int .i64 x_.Size,.slice A1_7 x_.Data.length c1_7,.string ⟨x_.Target.toArray⟩,.int .i64 x_.Dev,.slice A1_10 x_.Attrs.length c1_10] 44] w406:=H
    refine Sd (i:=1) ⟨H.has,H.blk 0 rfl,H.blk 2 rfl⟩ (Nw (some 45) (fun g => .slice (some ⟨g,0,none⟩) 2 2) [.int .u8 64,.int .u8 32] 5 H ?_)
    intro g407 w407 H
    refine Sd (i:=2) ⟨H.has,H.blk 1 rfl,H.blk 3 rfl⟩ (appS (r:=rU8) (some 46) 25 5 1 (.int .u8 0) 25 2 A_1_395 (some ⟨g407,0,none⟩) c_2_395 2 2 b4 [(64:UInt8),(32:UInt8)] b5 _ H rfl ⟨Tryd.underlying25,by kernel_rfl⟩ rfl (by decide) (by kernel_rfl) (Cs.of_blk (H.blk 0 rfl)) (Rows.u8.2 rfl) rfl h_b5 (by decide) (by decide) ?_)
    intro A408 c408 w408 H
    replace H:=H.drop 0 rfl
    refine Sd (i:=5) ⟨H.has,H.blk 0 rfl,H.blk 2 rfl⟩ (Cl (some 49) 11 #[.string ⟨x_1.Name.toArray⟩] Tryd.call11 (manifest_Quote_c H.has x_1.Name hl398_0 h_quote) ?_)
    rintro _ w409 ⟨rfl,hx409,hl409_0⟩
    replace H:=H.ex hx409
    refine Sd (i:=6) ⟨H.has,H.blk 0 rfl,H.blk 2 rfl⟩ (appstrS (some 50) 25 9 5 25 1 A408 c408 b5 quote b6 H rfl ⟨Tryd.underlying25,by kernel_rfl⟩ Tryd.underlying9 (by kernel_rfl) h_b6 ?_)
    intro A410 c410 w410 H
    refine Sk hst [7] [0,3,4,1,2,5,6,7] [(0,.slice A410 b6.length c410),(3,.pointer (some ⟨g1,0,none⟩)),(7,.pointer (some ⟨g399,0,none⟩)),(35,.slice A1_10 x_.Attrs.length c1_10),(36,.int .i64 (x_.Attrs.length:Int)),(37,.int .i64 (t:Int))] ?_
    refine Ed ⟨H.has,H.blk 0 rfl,H.blk 2 rfl⟩ ?_
    refine Sg 4 [.op [1,1,0,1,0,0,1,1,0,0,1,1,1,0,0] 1,.co [1,1,0,1,0,0,1,1,0,0,1,1,1,0,1],.co [1,1,0,1,0,0,1,1,0,0,1,1,1,1],.bl 3,.co [1,1,0,1,0,0,1,1,1],.le 1,.bl 2,.le 0,.co [1,1,1]] [(0,.slice A410 b6.length c410),(3,.pointer (some ⟨g1,0,none⟩)),(7,.pointer (some ⟨g399,0,none⟩)),(35,.slice A1_10 x_.Attrs.length c1_10),(36,.int .i64 (x_.Attrs.length:Int)),(37,.int .i64 (t:Int)),(51,.pointer (some ⟨g399,1,none⟩))] ?_
    replace H:St w F m mm395 [blkI g399 [.string ⟨x_1.Name.toArray⟩,.slice A398_1 x_1.Value.length c398_1] 46,rowI rU8 5 A410 c410 b6,blkI g1 [.string ⟨x_.Path.toArray⟩,.int .i64 x_.Kind,.int .i64 x_.Mode,.int .i64 x_.Uid,.int .i64 x_.Gid,.int .i64 x_.Time,.int .i64 x_.Size,.slice A1_7 x_.Data.length c1_7,.string ⟨x_.Target.toArray⟩,.int .i64 x_.Dev,.slice A1_10 x_.Attrs.length c1_10] 44] w410:=H
    refine st (Lr (some 52) 25 ⟨g399,1,none⟩ (.slice A398_1 x_1.Value.length c398_1) (H.cellB 0 rfl rfl) ?_)
    refine Sg 3 [.co [1,1,0,1,0,0,1,1,0,0,1,1,1,0,1],.co [1,1,0,1,0,0,1,1,0,0,1,1,1,1],.bl 3,.co [1,1,0,1,0,0,1,1,1],.le 1,.bl 2,.le 0,.co [1,1,1]] [(0,.slice A410 b6.length c410),(3,.pointer (some ⟨g1,0,none⟩)),(7,.pointer (some ⟨g399,0,none⟩)),(35,.slice A1_10 x_.Attrs.length c1_10),(36,.int .i64 (x_.Attrs.length:Int)),(37,.int .i64 (t:Int)),(54,.bool (decide ((x_1.Value.length:Int) > 0)))] ?_
    rcases condT hb_394 with ⟨hb411,hb_394⟩ | ⟨hb411,hb_394⟩
    ·rw [hb411]
     have p411:=of_decide_eq_true hb411
     refine Sg 1 [.co [1,1,0,1,0,0,1,1,0,0,1,1,1,0,1,0],.co [1,1,0,1,0,0,1,1,0,0,1,1,1,1],.bl 3,.co [1,1,0,1,0,0,1,1,1],.le 1,.bl 2,.le 0,.co [1,1,1]] [(0,.slice A410 b6.length c410),(3,.pointer (some ⟨g1,0,none⟩)),(7,.pointer (some ⟨g399,0,none⟩)),(35,.slice A1_10 x_.Attrs.length c1_10),(36,.int .i64 (x_.Attrs.length:Int)),(37,.int .i64 (t:Int))] ?_
     obtain ⟨b7,h_b7,hb_394⟩:=bindE hb_394
     obtain ⟨hex1,h_hex1,hb_394⟩:=bindE hb_394
     have hst:statB (bodyOf Tryd.f19) [1,1,0,1,0,0,1,1,0,0,1,1,1,0,1,0]=true:=by kernel_rfl
     refine Dw (fun w' => Has mm395 w' ∧ w'.heap[g399]?=some (.cells [.string ⟨x_1.Name.toArray⟩,.slice A398_1 x_1.Value.length c398_1].toArray 46 (0,0)) ∧ w'.heap[g1]?=some (.cells [.string ⟨x_.Path.toArray⟩,.int .i64 x_.Kind,.int .i64 x_.Mode,.int .i64 x_.Uid,.int .i64 x_.Gid,.int .i64 x_.Time,.int .i64 x_.Size,.slice A1_7 x_.Data.length c1_7,.string ⟨x_.Target.toArray⟩,.int .i64 x_.Dev,.slice A1_10 x_.Attrs.length c1_10].toArray 44 (0,0))) H ?_
     intro w415 H
     refine Sk hst [0,3] [0,3] [(3,.pointer (some ⟨g1,0,none⟩)),(35,.slice A1_10 x_.Attrs.length c1_10),(36,.int .i64 (x_.Attrs.length:Int)),(37,.int .i64 (t:Int)),(55,.slice A410 b6.length c410),(58,.pointer (some ⟨g399,1,none⟩))] ?_
     refine Tk (i:=4) (d:=(some 59)) (s:=vS (Instr.loadAt 25 (.pointer (some ⟨g399,1,none⟩)))) (v:=(.slice A398_1 x_1.Value.length c398_1)) hst (fun w' hw' => ld_run _ _ _ (by kernel_rfl) (blk_cell hw'.2.1 rfl)) ?_
     refine Sd (i:=1) ⟨H.has,H.blk 0 rfl,H.blk 2 rfl⟩ (Nw (some 56) (fun g => .slice (some ⟨g,0,none⟩) 1 1) [.int .u8 32] 5 H ?_)
     intro g416 w416 H
     replace H:St w F m mm395 [blkI g416 [.int .u8 32] 5,blkI g399 [.string ⟨x_1.Name.toArray⟩,.slice A398_1 x_1.Value.length c398_1] 46,rowI rU8 5 A410 c410 b6,blkI g1 [.string ⟨x_.Path.toArray⟩,.int .i64 x_.Kind,.int .i64 x_.Mode,.int .i64 x_.Uid,.int .i64 x_.Gid,.int .i64 x_.Time,.int .i64 x_.Size,.slice A1_7 x_.Data.length c1_7,.string ⟨x_.Target.toArray⟩,.int .i64 x_.Dev,.slice A1_10 x_.Attrs.length c1_10] 44] w416:=H
     refine Sd (i:=2) ⟨H.has,H.blk 1 rfl,H.blk 3 rfl⟩ (appS (r:=rU8) (some 57) 25 5 1 (.int .u8 0) 25 2 A410 (some ⟨g416,0,none⟩) c410 1 1 b6 [(32:UInt8)] b7 _ H rfl ⟨Tryd.underlying25,by kernel_rfl⟩ rfl (by decide) (by kernel_rfl) (Cs.of_blk (H.blk 0 rfl)) (Rows.u8.2 rfl) rfl h_b7 (by decide) (by decide) ?_)
     intro A417 c417 w417 H
     replace H:=H.drop 0 rfl
     replace H:=(H.pull 1 rfl)
     obtain ⟨F418,hse418,hFn418,hcl418⟩:=St.call [rowI rU8 5 A417 c417 b7] H
     refine Sd (i:=5) ⟨H.has,H.blk 1 rfl,H.blk 2 rfl⟩ (Cl (some 60) 32 #[.slice A417 b7.length c417,.slice A398_1 x_1.Value.length c398_1] Tryd.call32 (manifest_hex_c H.has b7 A417 c417 x_1.Value A398_1 c398_1 hs398_1 hse418 hFn418 h_hex1) ?_)
     rintro _ w418 ⟨A418_0,c418_0,mk418,rfl,hS418⟩
     have hsub418:=hS418.sub
     replace H:=hcl418 _ _ _ hS418
     refine Sk hst [6] [0,3,4,1,2,5,6] [(0,.slice A418_0 hex1.length c418_0),(3,.pointer (some ⟨g1,0,none⟩)),(35,.slice A1_10 x_.Attrs.length c1_10),(36,.int .i64 (x_.Attrs.length:Int)),(37,.int .i64 (t:Int))] ?_
     refine Ed ⟨(H.has.sub hsub418),H.blk 1 rfl,H.blk 2 rfl⟩ ?_
     refine Sg 2 [.op [1,1,0,1,0,0,1,1,0,0,1,1,1,1] 1,.bl 3,.co [1,1,0,1,0,0,1,1,1],.le 1,.bl 2,.le 0,.co [1,1,1]] [(3,.pointer (some ⟨g1,0,none⟩)),(35,.slice A1_10 x_.Attrs.length c1_10),(36,.int .i64 (x_.Attrs.length:Int)),(37,.int .i64 (t:Int)),(61,.slice A418_0 hex1.length c418_0)] ?_
     refine st (Nw (some 62) (fun g => .slice (some ⟨g,0,none⟩) 1 1) [.int .u8 10] 5 H ?_)
     intro g419 w419 H
     obtain ⟨b8,h_b8,hb_394⟩:=bindE hb_394
     refine st (appS (r:=rU8) (some 63) 25 5 1 (.int .u8 0) 25 1 A418_0 (some ⟨g419,0,none⟩) c418_0 1 1 hex1 [(10:UInt8)] b8 _ H rfl ⟨Tryd.underlying25,by kernel_rfl⟩ rfl (by decide) (by kernel_rfl) (Cs.of_blk (H.blk 0 rfl)) (Rows.u8.2 rfl) rfl h_b8 (by decide) (by decide) ?_)
     intro A420 c420 w420 H
     replace H:=H.drop 0 rfl
     refine Sg 7 [.le 1,.bl 2,.le 0,.co [1,1,1]] [(0,.slice A420 b8.length c420),(3,.pointer (some ⟨g1,0,none⟩)),(35,.slice A1_10 x_.Attrs.length c1_10),(36,.int .i64 (x_.Attrs.length:Int)),(37,.int .i64 (IntKind.i64.wrap ((t:Int)+1)))] ?_
     have:=s1_10.bound
     rw [show IntKind.i64.wrap ((t:Int)+1)=((t:Int)+1) from w64 (by omega)]
     refine Lq (nk394,b8,(t+1),A420,c420,mk418) (Nat.lt_succ_self _) ⟨hnx394 _ (Option.some.inj hb_394).symm,(St.takeN 2 ((H.pull 2 rfl).pull 1 rfl)),(hsub395.trans hsub418)⟩
    ·rw [hb411]
     have p411:=of_decide_eq_false hb411
     refine Sg 4 [.op [1,1,0,1,0,0,1,1,0,0,1,1,1,1] 1,.bl 3,.co [1,1,0,1,0,0,1,1,1],.le 1,.bl 2,.le 0,.co [1,1,1]] [(3,.pointer (some ⟨g1,0,none⟩)),(35,.slice A1_10 x_.Attrs.length c1_10),(36,.int .i64 (x_.Attrs.length:Int)),(37,.int .i64 (t:Int)),(61,.slice A410 b6.length c410)] ?_
     replace H:St w F m mm395 [rowI rU8 5 A410 c410 b6,blkI g1 [.string ⟨x_.Path.toArray⟩,.int .i64 x_.Kind,.int .i64 x_.Mode,.int .i64 x_.Uid,.int .i64 x_.Gid,.int .i64 x_.Time,.int .i64 x_.Size,.slice A1_7 x_.Data.length c1_7,.string ⟨x_.Target.toArray⟩,.int .i64 x_.Dev,.slice A1_10 x_.Attrs.length c1_10] 44] w410:=(H.drop 0 rfl)
     refine st (Nw (some 62) (fun g => .slice (some ⟨g,0,none⟩) 1 1) [.int .u8 10] 5 H ?_)
     intro g421 w421 H
     obtain ⟨b9,h_b9,hb_394⟩:=bindE hb_394
     refine st (appS (r:=rU8) (some 63) 25 5 1 (.int .u8 0) 25 1 A410 (some ⟨g421,0,none⟩) c410 1 1 b6 [(10:UInt8)] b9 _ H rfl ⟨Tryd.underlying25,by kernel_rfl⟩ rfl (by decide) (by kernel_rfl) (Cs.of_blk (H.blk 0 rfl)) (Rows.u8.2 rfl) rfl h_b9 (by decide) (by decide) ?_)
     intro A422 c422 w422 H
     replace H:=H.drop 0 rfl
     refine Sg 7 [.le 1,.bl 2,.le 0,.co [1,1,1]] [(0,.slice A422 b9.length c422),(3,.pointer (some ⟨g1,0,none⟩)),(35,.slice A1_10 x_.Attrs.length c1_10),(36,.int .i64 (x_.Attrs.length:Int)),(37,.int .i64 (IntKind.i64.wrap ((t:Int)+1)))] ?_
     have:=s1_10.bound
     rw [show IntKind.i64.wrap ((t:Int)+1)=((t:Int)+1) from w64 (by omega)]
     refine Lq (nk394,b9,(t+1),A422,c422,mm395) (Nat.lt_succ_self _) ⟨hnx394 _ (Option.some.inj hb_394).symm,H,hsub395⟩
  ·rw [hb396]
   have p396:=of_decide_eq_false hb396
   refine Sg 2 [.le 0,.co [1,1,1]] [(0,.slice A_1_395 b4.length c_2_395)] ?_
   refine leR_up (k':=[]) (by rfl) ?_
   refine Lj (b4,A_1_395,c_2_395,mm395) ⟨(hfin394 _ (Option.some.inj hb_394).symm).symm,(St.takeN 1 H),hsub395⟩
 rintro ⟨b4,A_1_355,c_2_355,mm355⟩ wj354 ⟨hy354,H,hsub355⟩
 try dsimp only at hy354
 try dsimp only at H
 try dsimp only at hsub355
 rw [hy354] at hf
 refine Sg 5 [.co [1,1,1,1]] [(4,.slice A_1_355 b4.length c_2_355)] ?_
 refine Rr [4] [.slice A_1_355 b4.length c_2_355] ?_
 have hret:=(Option.some.inj hf)
 subst hret
 exact ⟨_,rfl,A_1_355,c_2_355,mm355,rfl,H⟩
theorem manifest_Print_c {m:Mem} {w:World} (hm:Has m w) (hG0:TabM m 0 (tab0.map fU64)) (hG2:TabM m 2 (tab2.map fU8)) (l_:(List TApiEntry)) (A0_0:Option Addr) (c0_0:Nat) (s0_0:SlI rApiEntry m A0_0 c0_0 l_) {r:((List UInt8) × Int)} (hf:manifest_Print l_=some r) :
  Calls Tryd.prog 8 #[.slice A0_0 l_.length c0_0] w fun e w' => ∃ v,e=.returned v ∧ ∃ Az_0:Option Addr,∃ cz_0:Nat,∃ m':Mem,v=.tuple #[.slice Az_0 r.1.length cz_0,.int .i64 r.2] ∧ St w noF m m' [rowI rU8 5 Az_0 cz_0 r.1] w':=by
 unfold manifest_Print at hf
 have H:=St.start0 hm
 refine Fc Tryd.func8 ?_
 refine Sg 12 [.co [1,0,1],.co [1,1]] [(0,.slice A0_0 l_.length c0_0),(11,.bool (decide ((l_.length:Int) > 16384)))] ?_
 rcases condT hf with ⟨hb2,hf⟩ | ⟨hb2,hf⟩
 ·rw [hb2]
  have p2:=of_decide_eq_true hb2
  refine Sg 6 [.co [1,0,1,0,1],.co [1,1]] [(2,.slice none 0 0),(3,.int .i64 3)] ?_
  have H:=H.nilR rU8 5
  refine Rr [2,3] [.slice none 0 0,.int .i64 3] ?_
  obtain rfl:([],3)=r:=(Option.some.inj hf)
  exact ⟨_,rfl,none,0,m,rfl,H⟩
 ·rw [hb2]
  have p2:=of_decide_eq_false hb2
  refine Sg 9 [.co [1,1,0,1],.co [1,1,1]] [(0,.slice A0_0 l_.length c0_0),(12,.slice A0_0 l_.length c0_0),(13,.int .i64 (l_.length:Int)),(14,.int .i64 0)] ?_
  obtain ⟨y70,hp70,hfl70,hfr70⟩:=bndE hf
  refine joinR 0 (fun (x:Unit) => [(0,.slice A0_0 l_.length c0_0)]) (fun (x:Unit) (wj70:World) => y70=.inl () ∧ St w noF m m [] wj70) (by kernel_rfl) ?_ ?_
  ·refine Sg 1 [.co [1,1,0,1,0],.bl 0,.le 0,.co [1,1,1]] [(0,.slice A0_0 l_.length c0_0),(12,.slice A0_0 l_.length c0_0),(13,.int .i64 (l_.length:Int)),(14,.int .i64 0)] ?_
   obtain ⟨nn88,hR88⟩:=loopO_iff.1 hp70
   refine Lp 1 (fun (x:Nat × Nat) => [(0,.slice A0_0 l_.length c0_0),(12,.slice A0_0 l_.length c0_0),(13,.int .i64 (l_.length:Int)),(14,.int .i64 (x.2:Int))]) (fun (x:Nat × Nat) (wl88:World) => iter (fun s => manifest_Print_l1 l_ s) x.1 x.2=some y70 ∧ St w noF m m [] wl88) (fun (x:Nat × Nat) => x.1) (nn88,0) ?_ ?_
   ·exact ⟨hR88,H⟩
   rintro ⟨n88,t⟩ wl88 ⟨hR88,H⟩
   try dsimp only at hR88
   try dsimp only at H
   obtain ⟨nk88,q88,rfl,hb_88,hnx88,hfin88⟩:=iterE hR88
   replace hb_88:manifest_Print_l1 l_ t=some q88:=hb_88
   unfold manifest_Print_l1 at hb_88
   refine Sg 5 [.co [1,1,0,1,0,0,1,0],.co [1,1,0,1,0,0,1,1],.le 1,.bl 0,.le 0,.co [1,1,1]] [(0,.slice A0_0 l_.length c0_0),(12,.slice A0_0 l_.length c0_0),(13,.int .i64 (l_.length:Int)),(14,.int .i64 (t:Int)),(15,.bool (decide ((t:Int) < (l_.length:Int))))] ?_
   rcases condT hb_88 with ⟨hb90,hb_88⟩ | ⟨hb90,hb_88⟩
   ·rw [hb90]
    have p90:=of_decide_eq_true hb90
    refine Sg 6 [.op [1,1,0,1,0,0,1,1,0,0,0] 0,.co [1,1,0,1,0,0,1,1,0,0,1],.bl 1,.co [1,1,0,1,0,0,1,1,1],.le 1,.bl 0,.le 0,.co [1,1,1]] [(0,.slice A0_0 l_.length c0_0),(12,.slice A0_0 l_.length c0_0),(13,.int .i64 (l_.length:Int)),(14,.int .i64 (t:Int))] ?_
    obtain ⟨x_,h_x_,hb_88⟩:=bindE hb_88
    obtain ⟨ad92,_,ea92,⟨A92_7,c92_7,A92_10,c92_10,rfl,hl92_0,hs92_7,hl92_8,hs92_10⟩,hc92⟩:=s0_0.at_ h_x_ (by decide)
    refine st (Ix (some 16) 22 44 11 A0_0 ad92 l_.length c0_0 .i64 (t:Int) ea92 (by omega) (by have:=(List.getElem?_eq_some_iff.1 h_x_).1; omega) ?_)
    refine st (La (some 17) 44 (ad92.add (t * 11)) [.string ⟨x_.Path.toArray⟩,.int .i64 x_.Kind,.int .i64 x_.Mode,.int .i64 x_.Uid,.int .i64 x_.Gid,.int .i64 x_.Time,.int .i64 x_.Size,.slice A92_7 x_.Data.length c92_7,.string ⟨x_.Target.toArray⟩,.int .i64 x_.Dev,.slice A92_10 x_.Attrs.length c92_10] (fun j v hj => H.cellI (hc92 j v hj)) ?_)
    refine st (Nw (some 5) (fun g => .pointer (some ⟨g,0,none⟩)) [.string ⟨([]:List UInt8).toArray⟩,.int .i64 0,.int .i64 0,.int .i64 0,.int .i64 0,.int .i64 0,.int .i64 0,.slice none 0 0,.string ⟨([]:List UInt8).toArray⟩,.int .i64 0,.slice none 0 0] 44 H ?_)
    intro g93 w93 H
    refine st (Sa none 44 0 g93 0 [.string ⟨x_.Path.toArray⟩,.int .i64 x_.Kind,.int .i64 x_.Mode,.int .i64 x_.Uid,.int .i64 x_.Gid,.int .i64 x_.Time,.int .i64 x_.Size,.slice A92_7 x_.Data.length c92_7,.string ⟨x_.Target.toArray⟩,.int .i64 x_.Dev,.slice A92_10 x_.Attrs.length c92_10] [.string ⟨x_.Path.toArray⟩,.int .i64 x_.Kind,.int .i64 x_.Mode,.int .i64 x_.Uid,.int .i64 x_.Gid,.int .i64 x_.Time,.int .i64 x_.Size,.slice A92_7 x_.Data.length c92_7,.string ⟨x_.Target.toArray⟩,.int .i64 x_.Dev,.slice A92_10 x_.Attrs.length c92_10] H rfl (by rfl) (of_decide_eq_true rfl) rfl ?_)
    intro w94 H
    refine Sg 3 [.op [1,1,0,1,0,0,1,1,0,0,1,0] 0,.co [1,1,0,1,0,0,1,1,0,0,1,1],.bl 1,.co [1,1,0,1,0,0,1,1,1],.le 1,.bl 0,.le 0,.co [1,1,1]] [(0,.slice A0_0 l_.length c0_0),(5,.pointer (some ⟨g93,0,none⟩)),(12,.slice A0_0 l_.length c0_0),(13,.int .i64 (l_.length:Int)),(14,.int .i64 (t:Int))] ?_
    replace H:St w noF m m [blkI g93 [.string ⟨x_.Path.toArray⟩,.int .i64 x_.Kind,.int .i64 x_.Mode,.int .i64 x_.Uid,.int .i64 x_.Gid,.int .i64 x_.Time,.int .i64 x_.Size,.slice A92_7 x_.Data.length c92_7,.string ⟨x_.Target.toArray⟩,.int .i64 x_.Dev,.slice A92_10 x_.Attrs.length c92_10] 44] w94:=H
    refine st (La (some 18) 44 ⟨g93,0,none⟩ [.string ⟨x_.Path.toArray⟩,.int .i64 x_.Kind,.int .i64 x_.Mode,.int .i64 x_.Uid,.int .i64 x_.Gid,.int .i64 x_.Time,.int .i64 x_.Size,.slice A92_7 x_.Data.length c92_7,.string ⟨x_.Target.toArray⟩,.int .i64 x_.Dev,.slice A92_10 x_.Attrs.length c92_10] (H.cellsB 0 rfl (by rfl)) ?_)
    refine st (Cl (some 19) 17 #[.agg #[.string ⟨x_.Path.toArray⟩,.int .i64 x_.Kind,.int .i64 x_.Mode,.int .i64 x_.Uid,.int .i64 x_.Gid,.int .i64 x_.Time,.int .i64 x_.Size,.slice A92_7 x_.Data.length c92_7,.string ⟨x_.Target.toArray⟩,.int .i64 x_.Dev,.slice A92_10 x_.Attrs.length c92_10]] Tryd.call17 (manifest_right_c H.has x_ hl92_0 A92_7 c92_7 hs92_7 hl92_8 A92_10 c92_10 hs92_10) ?_)
    rintro _ w95 ⟨rfl,hx95⟩
    replace H:=H.ex hx95
    refine Sg 2 [.co [1,1,0,1,0,0,1,1,0,0,1,1],.bl 1,.co [1,1,0,1,0,0,1,1,1],.le 1,.bl 0,.le 0,.co [1,1,1]] [(0,.slice A0_0 l_.length c0_0),(12,.slice A0_0 l_.length c0_0),(13,.int .i64 (l_.length:Int)),(14,.int .i64 (t:Int)),(20,.bool (!(manifest_right x_)))] ?_
    rcases condT hb_88 with ⟨hb96,hb_88⟩ | ⟨hb96,hb_88⟩
    ·rw [hb96]
     refine Sg 7 [.le 1,.bl 0,.le 0,.co [1,1,1]] [(0,.slice A0_0 l_.length c0_0),(12,.slice A0_0 l_.length c0_0),(13,.int .i64 (l_.length:Int)),(14,.int .i64 (IntKind.i64.wrap ((t:Int)+1)))] ?_
     have:=s0_0.bound
     rw [show IntKind.i64.wrap ((t:Int)+1)=((t:Int)+1) from w64 (by omega)]
     refine Lq (nk88,(t+1)) (Nat.lt_succ_self _) ⟨hnx88 _ (Option.some.inj hb_88).symm,(St.takeN 0 H)⟩
    ·rw [hb96]
     refine Sg 6 [.co [1,1,0,1,0,0,1,1,0,0,1,1,0,1],.bl 1,.co [1,1,0,1,0,0,1,1,1],.le 1,.bl 0,.le 0,.co [1,1,1]] [(2,.slice none 0 0),(3,.int .i64 1)] ?_
     have H:=H.nilR rU8 5
     refine Rr [2,3] [.slice none 0 0,.int .i64 1] ?_
     obtain rfl:([],1)=r:=(hfr70 _ (hfin88 _ (Option.some.inj hb_88).symm).symm)
     exact ⟨_,rfl,none,0,m,rfl,(St.takeN 1 H)⟩
   ·rw [hb90]
    have p90:=of_decide_eq_false hb90
    refine Sg 2 [.le 0,.co [1,1,1]] [(0,.slice A0_0 l_.length c0_0)] ?_
    refine leR_up (k':=[]) (by rfl) ?_
    refine Lj () ⟨(hfin88 _ (Option.some.inj hb_88).symm).symm,H⟩
  rintro _ wj70 ⟨hy70,H⟩
  have hf:=hfl70 _ hy70
  try dsimp only at hf
  refine Sg 11 [.co [1,1,1,1,0,1],.co [1,1,1,1,1]] [(6,.slice none 0 0),(22,.slice A0_0 l_.length c0_0),(23,.int .i64 (l_.length:Int)),(24,.int .i64 0)] ?_
  obtain ⟨y186,hp186,hfl186,hfr186⟩:=bndE hf
  refine joinR 0 (fun (x:(List UInt8) × Option Addr × Nat × Mem) => [(6,.slice (x.2.1) x.1.length (x.2.2.1))]) (fun (x:(List UInt8) × Option Addr × Nat × Mem) (wj186:World) => y186=.inl x.1 ∧ St w noF m x.2.2.2 [rowI rU8 5 (x.2.1) (x.2.2.1) x.1] wj186 ∧ Sub m x.2.2.2) (by kernel_rfl) ?_ ?_
  ·refine Sg 1 [.co [1,1,1,1,0,1,0],.bl 2,.le 0,.co [1,1,1,1,1]] [(6,.slice none 0 0),(22,.slice A0_0 l_.length c0_0),(23,.int .i64 (l_.length:Int)),(24,.int .i64 0)] ?_
   have H:=H.nilR rU8 5
   obtain ⟨nn210,hR210⟩:=loopO_iff.1 hp186
   refine Lp 1 (fun (x:Nat × (List UInt8) × Nat × Option Addr × Nat × Mem) => [(6,.slice (x.2.2.2.1) x.2.1.length (x.2.2.2.2.1)),(22,.slice A0_0 l_.length c0_0),(23,.int .i64 (l_.length:Int)),(24,.int .i64 (x.2.2.1:Int))]) (fun (x:Nat × (List UInt8) × Nat × Option Addr × Nat × Mem) (wl210:World) => iter (fun s => manifest_Print_l2 l_ s.1 s.2) x.1 (x.2.1,x.2.2.1)=some y186 ∧ St w noF m x.2.2.2.2.2 [rowI rU8 5 (x.2.2.2.1) (x.2.2.2.2.1) x.2.1] wl210 ∧ Sub m x.2.2.2.2.2) (fun (x:Nat × (List UInt8) × Nat × Option Addr × Nat × Mem) => x.1) (nn210,[],0,none,0,m) ?_ ?_
   ·exact ⟨hR210,H,(Sub.refl _)⟩
   rintro ⟨n210,b,t1,A_1_211,c_2_211,mm211⟩ wl210 ⟨hR210,H,hsub211⟩
   try dsimp only at hR210
   try dsimp only at H
   try dsimp only at hsub211
   obtain ⟨nk210,q210,rfl,hb_210,hnx210,hfin210⟩:=iterE hR210
   replace hb_210:manifest_Print_l2 l_ b t1=some q210:=hb_210
   unfold manifest_Print_l2 at hb_210
   refine Sg 5 [.co [1,1,1,1,0,1,0,0,1,0],.co [1,1,1,1,0,1,0,0,1,1],.le 1,.bl 2,.le 0,.co [1,1,1,1,1]] [(6,.slice A_1_211 b.length c_2_211),(22,.slice A0_0 l_.length c0_0),(23,.int .i64 (l_.length:Int)),(24,.int .i64 (t1:Int)),(25,.bool (decide ((t1:Int) < (l_.length:Int))))] ?_
   rcases condT hb_210 with ⟨hb212,hb_210⟩ | ⟨hb212,hb_210⟩
   ·rw [hb212]
    have p212:=of_decide_eq_true hb212
    refine Sg 6 [.op [1,1,1,1,0,1,0,0,1,1,0,0,0] 0,.co [1,1,1,1,0,1,0,0,1,1,0,0,1],.bl 3,.co [1,1,1,1,0,1,0,0,1,1,1],.le 1,.bl 2,.le 0,.co [1,1,1,1,1]] [(6,.slice A_1_211 b.length c_2_211),(22,.slice A0_0 l_.length c0_0),(23,.int .i64 (l_.length:Int)),(24,.int .i64 (t1:Int))] ?_
    replace H:St w noF m mm211 [rowI rU8 5 A_1_211 c_2_211 b] wl210:=H
    obtain ⟨x_1,h_x_1,hb_210⟩:=bindE hb_210
    obtain ⟨ad214,_,ea214,⟨A214_7,c214_7,A214_10,c214_10,rfl,hl214_0,hs214_7,hl214_8,hs214_10⟩,hc214⟩:=(s0_0.mono hsub211).at_ h_x_1 (by decide)
    refine st (Ix (some 26) 22 44 11 A0_0 ad214 l_.length c0_0 .i64 (t1:Int) ea214 (by omega) (by have:=(List.getElem?_eq_some_iff.1 h_x_1).1; omega) ?_)
    refine st (La (some 27) 44 (ad214.add (t1 * 11)) [.string ⟨x_1.Path.toArray⟩,.int .i64 x_1.Kind,.int .i64 x_1.Mode,.int .i64 x_1.Uid,.int .i64 x_1.Gid,.int .i64 x_1.Time,.int .i64 x_1.Size,.slice A214_7 x_1.Data.length c214_7,.string ⟨x_1.Target.toArray⟩,.int .i64 x_1.Dev,.slice A214_10 x_1.Attrs.length c214_10] (fun j v hj => H.cellI (hc214 j v hj)) ?_)
    refine st (Nw (some 8) (fun g => .pointer (some ⟨g,0,none⟩)) [.string ⟨([]:List UInt8).toArray⟩,.int .i64 0,.int .i64 0,.int .i64 0,.int .i64 0,.int .i64 0,.int .i64 0,.slice none 0 0,.string ⟨([]:List UInt8).toArray⟩,.int .i64 0,.slice none 0 0] 44 H ?_)
    intro g215 w215 H
    refine st (Sa none 44 0 g215 0 [.string ⟨x_1.Path.toArray⟩,.int .i64 x_1.Kind,.int .i64 x_1.Mode,.int .i64 x_1.Uid,.int .i64 x_1.Gid,.int .i64 x_1.Time,.int .i64 x_1.Size,.slice A214_7 x_1.Data.length c214_7,.string ⟨x_1.Target.toArray⟩,.int .i64 x_1.Dev,.slice A214_10 x_1.Attrs.length c214_10] [.string ⟨x_1.Path.toArray⟩,.int .i64 x_1.Kind,.int .i64 x_1.Mode,.int .i64 x_1.Uid,.int .i64 x_1.Gid,.int .i64 x_1.Time,.int .i64 x_1.Size,.slice A214_7 x_1.Data.length c214_7,.string ⟨x_1.Target.toArray⟩,.int .i64 x_1.Dev,.slice A214_10 x_1.Attrs.length c214_10] H rfl (by rfl) (of_decide_eq_true rfl) rfl ?_)
    intro w216 H
    refine Sg 4 [.op [1,1,1,1,0,1,0,0,1,1,0,0,1,0,0] 0,.co [1,1,1,1,0,1,0,0,1,1,0,0,1,0,1],.co [1,1,1,1,0,1,0,0,1,1,0,0,1,1],.bl 3,.co [1,1,1,1,0,1,0,0,1,1,1],.le 1,.bl 2,.le 0,.co [1,1,1,1,1]] [(6,.slice A_1_211 b.length c_2_211),(8,.pointer (some ⟨g215,0,none⟩)),(22,.slice A0_0 l_.length c0_0),(23,.int .i64 (l_.length:Int)),(24,.int .i64 (t1:Int))] ?_
    refine st (La (some 28) 44 ⟨g215,0,none⟩ [.string ⟨x_1.Path.toArray⟩,.int .i64 x_1.Kind,.int .i64 x_1.Mode,.int .i64 x_1.Uid,.int .i64 x_1.Gid,.int .i64 x_1.Time,.int .i64 x_1.Size,.slice A214_7 x_1.Data.length c214_7,.string ⟨x_1.Target.toArray⟩,.int .i64 x_1.Dev,.slice A214_10 x_1.Attrs.length c214_10] (H.cellsB 0 rfl (by rfl)) ?_)
    obtain ⟨tooLon,h_tooLon,hb_210⟩:=bindE hb_210
    refine st (Cl (some 29) 18 #[.agg #[.string ⟨x_1.Path.toArray⟩,.int .i64 x_1.Kind,.int .i64 x_1.Mode,.int .i64 x_1.Uid,.int .i64 x_1.Gid,.int .i64 x_1.Time,.int .i64 x_1.Size,.slice A214_7 x_1.Data.length c214_7,.string ⟨x_1.Target.toArray⟩,.int .i64 x_1.Dev,.slice A214_10 x_1.Attrs.length c214_10]] Tryd.call18 (manifest_tooLong_c H.has x_1 hl214_0 A214_7 c214_7 hs214_7 hl214_8 A214_10 c214_10 hs214_10 h_tooLon) ?_)
    rintro _ w217 ⟨rfl,hx217⟩
    replace H:=H.ex hx217
    refine Sg 1 [.co [1,1,1,1,0,1,0,0,1,1,0,0,1,0,1],.co [1,1,1,1,0,1,0,0,1,1,0,0,1,1],.bl 3,.co [1,1,1,1,0,1,0,0,1,1,1],.le 1,.bl 2,.le 0,.co [1,1,1,1,1]] [(6,.slice A_1_211 b.length c_2_211),(8,.pointer (some ⟨g215,0,none⟩)),(22,.slice A0_0 l_.length c0_0),(23,.int .i64 (l_.length:Int)),(24,.int .i64 (t1:Int)),(29,.bool tooLon)] ?_
    rcases condT hb_210 with ⟨hb218,hb_210⟩ | ⟨hb218,hb_210⟩
    ·rw [hb218]
     refine Sg 6 [.co [1,1,1,1,0,1,0,0,1,1,0,0,1,0,1,0,1],.co [1,1,1,1,0,1,0,0,1,1,0,0,1,1],.bl 3,.co [1,1,1,1,0,1,0,0,1,1,1],.le 1,.bl 2,.le 0,.co [1,1,1,1,1]] [(2,.slice none 0 0),(3,.int .i64 2)] ?_
     have H:=H.nilR rU8 5
     refine Rr [2,3] [.slice none 0 0,.int .i64 2] ?_
     obtain rfl:([],2)=r:=(hfr186 _ (hfin210 _ (Option.some.inj hb_210).symm).symm)
     exact ⟨_,rfl,none,0,mm211,rfl,(St.takeN 1 H)⟩
    ·rw [hb218]
     refine Sg 3 [.co [1,1,1,1,0,1,0,0,1,1,0,0,1,1,0],.co [1,1,1,1,0,1,0,0,1,1,0,0,1,1,1],.bl 3,.co [1,1,1,1,0,1,0,0,1,1,1],.le 1,.bl 2,.le 0,.co [1,1,1,1,1]] [(6,.slice A_1_211 b.length c_2_211),(8,.pointer (some ⟨g215,0,none⟩)),(22,.slice A0_0 l_.length c0_0),(23,.int .i64 (l_.length:Int)),(24,.int .i64 (t1:Int))] ?_
     obtain ⟨line,h_line,hb_210⟩:=bindE hb_210
     obtain ⟨rest,h_rest,hb_210⟩:=bindE hb_210
     have hst:statB (bodyOf Tryd.f8) [1,1,1,1,0,1,0,0,1,1,0,0,1,1,0]=true:=by kernel_rfl
     refine Dw (fun w' => Has mm211 w' ∧ w'.heap[g215]?=some (.cells [.string ⟨x_1.Path.toArray⟩,.int .i64 x_1.Kind,.int .i64 x_1.Mode,.int .i64 x_1.Uid,.int .i64 x_1.Gid,.int .i64 x_1.Time,.int .i64 x_1.Size,.slice A214_7 x_1.Data.length c214_7,.string ⟨x_1.Target.toArray⟩,.int .i64 x_1.Dev,.slice A214_10 x_1.Attrs.length c214_10].toArray 44 (0,0))) H ?_
     intro w221 H
     refine Sk hst [0] [0] [(8,.pointer (some ⟨g215,0,none⟩)),(22,.slice A0_0 l_.length c0_0),(23,.int .i64 (l_.length:Int)),(24,.int .i64 (t1:Int)),(30,.slice A_1_211 b.length c_2_211)] ?_
     refine Tk (i:=1) (d:=(some 31)) (s:=vS (Instr.loadAt 44 (.pointer (some ⟨g215,0,none⟩)))) (v:=(.agg #[.string ⟨x_1.Path.toArray⟩,.int .i64 x_1.Kind,.int .i64 x_1.Mode,.int .i64 x_1.Uid,.int .i64 x_1.Gid,.int .i64 x_1.Time,.int .i64 x_1.Size,.slice A214_7 x_1.Data.length c214_7,.string ⟨x_1.Target.toArray⟩,.int .i64 x_1.Dev,.slice A214_10 x_1.Attrs.length c214_10])) hst (fun w' hw' => aggRun _ _ [.string ⟨x_1.Path.toArray⟩,.int .i64 x_1.Kind,.int .i64 x_1.Mode,.int .i64 x_1.Uid,.int .i64 x_1.Gid,.int .i64 x_1.Time,.int .i64 x_1.Size,.slice A214_7 x_1.Data.length c214_7,.string ⟨x_1.Target.toArray⟩,.int .i64 x_1.Dev,.slice A214_10 x_1.Attrs.length c214_10] (by kernel_rfl) (blk_cells hw'.2 (by rfl))) ?_
     refine Tk (i:=3) (d:=(some 33)) (s:=vS (Instr.loadAt 44 (.pointer (some ⟨g215,0,none⟩)))) (v:=(.agg #[.string ⟨x_1.Path.toArray⟩,.int .i64 x_1.Kind,.int .i64 x_1.Mode,.int .i64 x_1.Uid,.int .i64 x_1.Gid,.int .i64 x_1.Time,.int .i64 x_1.Size,.slice A214_7 x_1.Data.length c214_7,.string ⟨x_1.Target.toArray⟩,.int .i64 x_1.Dev,.slice A214_10 x_1.Attrs.length c214_10])) hst (fun w' hw' => aggRun _ _ [.string ⟨x_1.Path.toArray⟩,.int .i64 x_1.Kind,.int .i64 x_1.Mode,.int .i64 x_1.Uid,.int .i64 x_1.Gid,.int .i64 x_1.Time,.int .i64 x_1.Size,.slice A214_7 x_1.Data.length c214_7,.string ⟨x_1.Target.toArray⟩,.int .i64 x_1.Dev,.slice A214_10 x_1.Attrs.length c214_10] (by kernel_rfl) (blk_cells hw'.2 (by rfl))) ?_
     replace H:St w noF m mm211 [blkI g215 [.string ⟨x_1.Path.toArray⟩,.int .i64 x_1.Kind,.int .i64 x_1.Mode,.int .i64 x_1.Uid,.int .i64 x_1.Gid,.int .i64 x_1.Time,.int .i64 x_1.Size,.slice A214_7 x_1.Data.length c214_7,.string ⟨x_1.Target.toArray⟩,.int .i64 x_1.Dev,.slice A214_10 x_1.Attrs.length c214_10] 44,rowI rU8 5 A_1_211 c_2_211 b] w221:=H
     replace H:=(H.pull 1 rfl)
     obtain ⟨F222,hse222,hFn222,hcl222⟩:=St.call [rowI rU8 5 A_1_211 c_2_211 b] H
     refine Sd (i:=2) ⟨H.has,H.blk 1 rfl⟩ (Cl (some 32) 20 #[.slice A_1_211 b.length c_2_211,.agg #[.string ⟨x_1.Path.toArray⟩,.int .i64 x_1.Kind,.int .i64 x_1.Mode,.int .i64 x_1.Uid,.int .i64 x_1.Gid,.int .i64 x_1.Time,.int .i64 x_1.Size,.slice A214_7 x_1.Data.length c214_7,.string ⟨x_1.Target.toArray⟩,.int .i64 x_1.Dev,.slice A214_10 x_1.Attrs.length c214_10]] Tryd.call20 (manifest_line_c H.has (hG0.mono hsub211) (hG2.mono hsub211) b A_1_211 c_2_211 x_1 hl214_0 A214_7 c214_7 hs214_7 hl214_8 A214_10 c214_10 hs214_10 hse222 hFn222 h_line) ?_)
     rintro _ w222 ⟨A222_0,c222_0,mk222,rfl,hS222⟩
     have hsub222:=hS222.sub
     replace H:=hcl222 _ _ _ hS222
     obtain ⟨F223,hse223,hFn223,hcl223⟩:=St.call [rowI rU8 5 A222_0 c222_0 line] H
     refine Sd (i:=4) ⟨(H.has.sub hsub222),H.blk 1 rfl⟩ (Cl (some 34) 19 #[.slice A222_0 line.length c222_0,.agg #[.string ⟨x_1.Path.toArray⟩,.int .i64 x_1.Kind,.int .i64 x_1.Mode,.int .i64 x_1.Uid,.int .i64 x_1.Gid,.int .i64 x_1.Time,.int .i64 x_1.Size,.slice A214_7 x_1.Data.length c214_7,.string ⟨x_1.Target.toArray⟩,.int .i64 x_1.Dev,.slice A214_10 x_1.Attrs.length c214_10]] Tryd.call19 (manifest_rest_c H.has line A222_0 c222_0 x_1 hl214_0 A214_7 c214_7 (hs214_7.mono hsub222) hl214_8 A214_10 c214_10 (hs214_10.mono hsub222) hse223 hFn223 h_rest) ?_)
     rintro _ w223 ⟨A223_0,c223_0,mk223,rfl,hS223⟩
     have hsub223:=hS223.sub
     replace H:=hcl223 _ _ _ hS223
     refine Sk hst [5] [0,1,3,2,4,5] [(6,.slice A223_0 rest.length c223_0),(22,.slice A0_0 l_.length c0_0),(23,.int .i64 (l_.length:Int)),(24,.int .i64 (t1:Int))] ?_
     refine Ed ⟨(H.has.sub (hsub222.trans hsub223)),H.blk 1 rfl⟩ ?_
     refine Sg 6 [.co [1,1,1,1,0,1,0,0,1,1,0,0,1,1,1,1],.bl 3,.co [1,1,1,1,0,1,0,0,1,1,1],.le 1,.bl 2,.le 0,.co [1,1,1,1,1]] [(6,.slice A223_0 rest.length c223_0),(22,.slice A0_0 l_.length c0_0),(23,.int .i64 (l_.length:Int)),(24,.int .i64 (t1:Int)),(37,.bool (decide ((rest.length:Int) > 1048576)))] ?_
     rcases condT hb_210 with ⟨hb224,hb_210⟩ | ⟨hb224,hb_210⟩
     ·rw [hb224]
      have p224:=of_decide_eq_true hb224
      refine Sg 6 [.co [1,1,1,1,0,1,0,0,1,1,0,0,1,1,1,1,0,1],.bl 3,.co [1,1,1,1,0,1,0,0,1,1,1],.le 1,.bl 2,.le 0,.co [1,1,1,1,1]] [(2,.slice none 0 0),(3,.int .i64 2)] ?_
      have H:=H.nilR rU8 5
      refine Rr [2,3] [.slice none 0 0,.int .i64 2] ?_
      obtain rfl:([],2)=r:=(hfr186 _ (hfin210 _ (Option.some.inj hb_210).symm).symm)
      exact ⟨_,rfl,none,0,mk223,rfl,(St.takeN 1 H)⟩
     ·rw [hb224]
      have p224:=of_decide_eq_false hb224
      refine Sg 7 [.le 1,.bl 2,.le 0,.co [1,1,1,1,1]] [(6,.slice A223_0 rest.length c223_0),(22,.slice A0_0 l_.length c0_0),(23,.int .i64 (l_.length:Int)),(24,.int .i64 (IntKind.i64.wrap ((t1:Int)+1)))] ?_
      have:=s0_0.bound
      rw [show IntKind.i64.wrap ((t1:Int)+1)=((t1:Int)+1) from w64 (by omega)]
      refine Lq (nk210,rest,(t1+1),A223_0,c223_0,mk223) (Nat.lt_succ_self _) ⟨hnx210 _ (Option.some.inj hb_210).symm,(St.takeN 1 H),((hsub211.trans hsub222).trans hsub223)⟩
   ·rw [hb212]
    have p212:=of_decide_eq_false hb212
    refine Sg 2 [.le 0,.co [1,1,1,1,1]] [(6,.slice A_1_211 b.length c_2_211)] ?_
    refine leR_up (k':=[]) (by rfl) ?_
    refine Lj (b,A_1_211,c_2_211,mm211) ⟨(hfin210 _ (Option.some.inj hb_210).symm).symm,H,hsub211⟩
  rintro ⟨b,A_1_187,c_2_187,mm187⟩ wj186 ⟨hy186,H,hsub187⟩
  try dsimp only at hy186
  try dsimp only at H
  try dsimp only at hsub187
  have hf:=hfl186 _ hy186
  refine Sg 6 [.co [1,1,1,1,1,1]] [(2,.slice A_1_187 b.length c_2_187),(3,.int .i64 0)] ?_
  refine Rr [2,3] [.slice A_1_187 b.length c_2_187,.int .i64 0] ?_
  obtain rfl:(b,0)=r:=(Option.some.inj hf)
  exact ⟨_,rfl,A_1_187,c_2_187,mm187,rfl,H⟩
theorem law27_num_c {m:Mem} {w:World} (hm:Has m w) (e_:Int) :
  Calls Tryd.prog 10 #[.int .i64 e_] w fun e w' => ∃ v,e=.returned v ∧ v=.int .i64 (law27_num e_) ∧ Ex w w':=by
 generalize hf:law27_num e_=r
 unfold law27_num at hf
 have H:=St.start0 hm
 refine Fc Tryd.func10 ?_
 refine Sg 9 [.co [1,1]] [(2,.int .i64 e_)] ?_
 refine Rr [2] [.int .i64 e_] ?_
 have hret:=hf
 subst hret
 exact ⟨_,rfl,rfl,H.scalar⟩
theorem law27_live_c {m:Mem} {w:World} (hm:Has m w) (hG0:TabM m 0 (tab0.map fU64)) (hG2:TabM m 2 (tab2.map fU8)) {r:Bool} (hf:law27_live=some r) :
  Calls Tryd.prog 7 #[] w fun e w' => ∃ v,e=.returned v ∧ v=.bool r ∧ Ex w w':=by
 unfold law27_live at hf
 have H:=St.start0 hm
 refine Fc Tryd.func7 ?_
 refine Sg 7 [.op [1,0] 1,.co [1,1]] [(6,.agg #[.string ⟨([97,32,98]:List UInt8).toArray⟩,.int .i64 2,.int .i64 493,.int .i64 0,.int .i64 0,.int .i64 0,.int .i64 0,.slice none 0 0,.string ⟨([]:List UInt8).toArray⟩,.int .i64 0,.slice none 0 0])] ?_
 refine st (Nw (some 7) (fun g => .slice (some ⟨g,0,none⟩) 1 1) [.string ⟨([97,32,98]:List UInt8).toArray⟩,.int .i64 2,.int .i64 493,.int .i64 0,.int .i64 0,.int .i64 0,.int .i64 0,.slice none 0 0,.string ⟨([]:List UInt8).toArray⟩,.int .i64 0,.slice none 0 0] 44 H ?_)
 intro g1 w1 H
 have H:=H.toRow (r:=rApiEntry) (l:=[({ Path:=([97,32,98]:List UInt8),Kind:=2,Mode:=493,Uid:=0,Gid:=0,Time:=0,Size:=0,Data:=[],Target:=([]:List UInt8),Dev:=0,Attrs:=[] }:TApiEntry)]) 0 rfl (Rows.cons (cs:=[.string ⟨([97,32,98]:List UInt8).toArray⟩,.int .i64 2,.int .i64 493,.int .i64 0,.int .i64 0,.int .i64 0,.int .i64 0,.slice none 0 0,.string ⟨([]:List UInt8).toArray⟩,.int .i64 0,.slice none 0 0]) ⟨none,0,none,0,rfl,(Nat.le_of_ble_eq_true rfl),(SlI.nil _ _),(Nat.le_of_ble_eq_true rfl),(SlI.nil _ _)⟩ Rows.nil) (Nat.le_of_ble_eq_true rfl)
 have H0_2:=H
 obtain ⟨mf3,hsub3,hsf3,H⟩:=H.fixR 0 rfl
 obtain ⟨print,h_print,hf⟩:=bindE hf
 refine st (Cl (some 8) 8 #[.slice (some ⟨g1,0,none⟩) 1 1] Tryd.call8 (manifest_Print_c H.has (hG0.mono hsub3) (hG2.mono hsub3) [({ Path:=([97,32,98]:List UInt8),Kind:=2,Mode:=493,Uid:=0,Gid:=0,Time:=0,Size:=0,Data:=[],Target:=([]:List UInt8),Dev:=0,Attrs:=[] }:TApiEntry)] (some ⟨g1,0,none⟩) 1 hsf3 h_print) ?_)
 rintro _ w4 ⟨A4_0,c4_0,mk4,rfl,hS4⟩
 replace H:=H0_2.callB hS4 ⟨rowI_ind (fun _ _ _ _ h => h),trivial⟩
 refine Sg 8 [.op [1,1,0] 0,.co [1,1,1]] [(1,.slice A4_0 print.1.length c4_0),(2,.int .i64 print.2)] ?_
 refine st (Nw (some 12) (fun g => .slice (some ⟨g,0,none⟩) 2 2) [.int .u8 1,.int .u8 255] 5 H ?_)
 intro g5 w5 H
 refine Sg 1 [.op [1,1,0] 2,.co [1,1,1]] [(1,.slice A4_0 print.1.length c4_0),(2,.int .i64 print.2),(13,.agg #[.string ⟨([120]:List UInt8).toArray⟩,.int .i64 1,.int .i64 0,.int .i64 0,.int .i64 0,.int .i64 0,.int .i64 3,.slice (some ⟨g5,0,none⟩) 2 2,.string ⟨([]:List UInt8).toArray⟩,.int .i64 0,.slice none 0 0])] ?_
 refine st (Nw (some 14) (fun g => .slice (some ⟨g,0,none⟩) 1 1) [.string ⟨([120]:List UInt8).toArray⟩,.int .i64 1,.int .i64 0,.int .i64 0,.int .i64 0,.int .i64 0,.int .i64 3,.slice (some ⟨g5,0,none⟩) 2 2,.string ⟨([]:List UInt8).toArray⟩,.int .i64 0,.slice none 0 0] 44 H ?_)
 intro g6 w6 H
 replace H:St w noF m m [blkI g6 [.string ⟨([120]:List UInt8).toArray⟩,.int .i64 1,.int .i64 0,.int .i64 0,.int .i64 0,.int .i64 0,.int .i64 3,.slice (some ⟨g5,0,none⟩) 2 2,.string ⟨([]:List UInt8).toArray⟩,.int .i64 0,.slice none 0 0] 44,blkI g5 [.int .u8 1,.int .u8 255] 5,rowI rU8 5 A4_0 c4_0 print.1] w6:=(H.drop 3 rfl)
 have H:=H.toRow (r:=rU8) (l:=[(1:UInt8),(255:UInt8)]) 1 rfl (Rows.u8.2 rfl) (Nat.le_of_ble_eq_true rfl)
 obtain ⟨mf7,hsub7,hsf7,H⟩:=H.fixR 1 rfl
 have H:=H.toRow (r:=rApiEntry) (l:=[({ Path:=([120]:List UInt8),Kind:=1,Mode:=0,Uid:=0,Gid:=0,Time:=0,Size:=3,Data:=[(1:UInt8),(255:UInt8)],Target:=([]:List UInt8),Dev:=0,Attrs:=[] }:TApiEntry)]) 0 rfl (Rows.cons (cs:=[.string ⟨([120]:List UInt8).toArray⟩,.int .i64 1,.int .i64 0,.int .i64 0,.int .i64 0,.int .i64 0,.int .i64 3,.slice (some ⟨g5,0,none⟩) 2 2,.string ⟨([]:List UInt8).toArray⟩,.int .i64 0,.slice none 0 0]) ⟨(some ⟨g5,0,none⟩),2,none,0,rfl,(Nat.le_of_ble_eq_true rfl),hsf7,(Nat.le_of_ble_eq_true rfl),(SlI.nil _ _)⟩ Rows.nil) (Nat.le_of_ble_eq_true rfl)
 have H0_9:=H
 obtain ⟨mf10,hsub10,hsf10,H⟩:=H.fixR 0 rfl
 obtain ⟨print1,h_print1,hf⟩:=bindE hf
 refine st (Cl (some 15) 8 #[.slice (some ⟨g6,0,none⟩) 1 1] Tryd.call8 (manifest_Print_c H.has (hG0.mono (hsub7.trans hsub10)) (hG2.mono (hsub7.trans hsub10)) [({ Path:=([120]:List UInt8),Kind:=1,Mode:=0,Uid:=0,Gid:=0,Time:=0,Size:=3,Data:=[(1:UInt8),(255:UInt8)],Target:=([]:List UInt8),Dev:=0,Attrs:=[] }:TApiEntry)] (some ⟨g6,0,none⟩) 1 hsf10 h_print1) ?_)
 rintro _ w11 ⟨A11_0,c11_0,mk11,rfl,hS11⟩
 replace H:=H0_9.callB hS11 ⟨rowI_ind (fun _ _ _ _ h => h),trivial⟩
 refine Sg 9 [.op [1,1,1,0] 1,.co [1,1,1,1]] [(1,.slice A4_0 print.1.length c4_0),(3,.slice A11_0 print1.1.length c11_0),(4,.int .i64 print1.2),(18,.int .i64 print.2)] ?_
 refine st (Cl (some 19) 10 #[.int .i64 print.2] Tryd.call10 (law27_num_c H.has print.2) ?_)
 rintro _ w19 ⟨rfl,hx19⟩
 replace H:=H.ex hx19
 refine Sg 1 [.op [1,1,1,0] 3,.co [1,1,1,1]] [(1,.slice A4_0 print.1.length c4_0),(3,.slice A11_0 print1.1.length c11_0),(19,.int .i64 (law27_num print.2)),(20,.int .i64 print1.2)] ?_
 replace H:St w noF m mf7 [rowI rU8 5 A11_0 c11_0 print1.1,rowI rU8 5 A4_0 c4_0 print.1] w19:=(H.drop 1 rfl)
 refine st (Cl (some 21) 10 #[.int .i64 print1.2] Tryd.call10 (law27_num_c H.has print1.2) ?_)
 rintro _ w20 ⟨rfl,hx20⟩
 replace H:=H.ex hx20
 refine Sg 3 [.op [1,1,1,0] 7,.co [1,1,1,1]] [(1,.slice A4_0 print.1.length c4_0),(3,.slice A11_0 print1.1.length c11_0),(24,.bool ((IntKind.i64.wrap ((law27_num print.2)+(law27_num print1.2))) == 0))] ?_
 rcases condT hf with ⟨hb21,hf⟩ | ⟨hb21,hf⟩
 ·rw [hb21]
  refine Sg 1 [.op [1,1,1,0] 8,.co [1,1,1,1]] [(3,.slice A11_0 print1.1.length c11_0),(24,.bool true),(25,.slice A4_0 print.1.length c4_0)] ?_
  refine st (b2sS (some 26) 25 9 5 A4_0 c4_0 print.1 Tryd.underlying25 Tryd.underlying5 Tryd.underlying9 (by kernel_rfl) (H.rowCs 1 rfl) ?_)
  have hl22:print.1.length ≤ 9223372036854775807:=(Nat.le_trans (H.rowCap 1 rfl).1 (H.rowCap 1 rfl).2)
  refine Sg 3 [.op [1,1,1,0] 12,.co [1,1,1,1]] [(3,.slice A11_0 print1.1.length c11_0),(29,.bool ((ByteArray.toList ⟨print.1.toArray⟩) == (ByteArray.toList ⟨([100,32,55,53,53,32,48,32,48,32,48,32,97,37,50,48,98,10]:List UInt8).toArray⟩)))] ?_
  rw [seq_raw print.1 ([100,32,55,53,53,32,48,32,48,32,48,32,97,37,50,48,98,10]:List UInt8)]
  rcases condT hf with ⟨hb23,hf⟩ | ⟨hb23,hf⟩
  ·rw [hb23]
   refine Sg 1 [.op [1,1,1,0] 13,.co [1,1,1,1]] [(29,.bool true),(30,.slice A11_0 print1.1.length c11_0)] ?_
   refine st (b2sS (some 31) 25 9 5 A11_0 c11_0 print1.1 Tryd.underlying25 Tryd.underlying5 Tryd.underlying9 (by kernel_rfl) (H.rowCs 0 rfl) ?_)
   have hl24:print1.1.length ≤ 9223372036854775807:=(Nat.le_trans (H.rowCap 0 rfl).1 (H.rowCap 0 rfl).2)
   refine Sg 4 [.co [1,1,1,1]] [(0,.bool ((ByteArray.toList ⟨print1.1.toArray⟩) == (ByteArray.toList ⟨([102,32,48,32,48,32,48,32,48,32,51,32,120,10,61,32,48,49,102,102,10]:List UInt8).toArray⟩)))] ?_
   rw [seq_raw print1.1 ([102,32,48,32,48,32,48,32,48,32,51,32,120,10,61,32,48,49,102,102,10]:List UInt8)]
   refine Rr [0] [.bool (print1.1 == ([102,32,48,32,48,32,48,32,48,32,51,32,120,10,61,32,48,49,102,102,10]:List UInt8))] ?_
   obtain rfl:(print1.1 == ([102,32,48,32,48,32,48,32,48,32,51,32,120,10,61,32,48,49,102,102,10]:List UInt8))=r:=(Option.some.inj hf)
   exact ⟨_,rfl,rfl,H.scalar⟩
  ·rw [hb23]
   refine Sg 6 [.co [1,1,1,1]] [(0,.bool false)] ?_
   refine Rr [0] [.bool false] ?_
   have hret:=(Option.some.inj hf)
   subst hret
   exact ⟨_,rfl,rfl,H.scalar⟩
 ·rw [hb21]
  refine Sg 11 [.co [1,1,1,1]] [(0,.bool false)] ?_
  refine Rr [0] [.bool false] ?_
  have hret:=(Option.some.inj hf)
  subst hret
  exact ⟨_,rfl,rfl,H.scalar⟩
theorem manifest_text_peek_c {m:Mem} {w:World} (hm:Has m w) (g0:Nat) (t:TManifestReader) (A0_0:Option Addr) (c0_0:Nat) (s0_0:SlI rU8 m A0_0 c0_0 t.f_text.f_b) (A0_3:Option Addr) (c0_3:Nat) {F:Nat → Prop} (hsep:Sep m w [blkI g0 [.slice A0_0 t.f_text.f_b.length c0_0,.int .i64 t.f_text.f_at,.int .i64 t.f_text.f_e,.slice A0_3 t.f_l.length c0_3,.bool t.f_full,.bool t.f_more] 56] F) (hF:∀ k,F k → m k=none) {r:UInt8} (hf:manifest_text_peek t=some r) :
  Calls Tryd.prog 37 #[.pointer (some ⟨g0,0,none⟩)] w fun e w' => ∃ v,e=.returned v ∧ ∃ m':Mem,v=.int .u8 (r.toNat:Int) ∧ St w F m m' [blkI g0 [.slice A0_0 t.f_text.f_b.length c0_0,.int .i64 t.f_text.f_at,.int .i64 t.f_text.f_e,.slice A0_3 t.f_l.length c0_3,.bool t.f_full,.bool t.f_more] 56] w':=by
 unfold manifest_text_peek at hf
 have H:=St.start hm hsep hF
 refine Fc Tryd.func37 ?_
 refine Sg 6 [.co [1,0,0],.co [1,0,1],.co [1,1]] [(0,.pointer (some ⟨g0,0,none⟩))] ?_
 rcases condT hf with ⟨hb2,hf⟩ | ⟨hb2,hf⟩
 ·have hst:statB (bodyOf Tryd.f37) [1,0,0]=true:=by kernel_rfl
  refine Dw (fun w' => Has m w' ∧ w'.heap[g0]?=some (.cells [.slice A0_0 t.f_text.f_b.length c0_0,.int .i64 t.f_text.f_at,.int .i64 t.f_text.f_e,.slice A0_3 t.f_l.length c0_3,.bool t.f_full,.bool t.f_more].toArray 56 (0,0))) H ?_
  intro w3 H
  refine Sk hst [0,1,2] [0,1,2] [(0,.pointer (some ⟨g0,0,none⟩)),(5,.pointer (some ⟨g0,2,none⟩))] ?_
  refine Sd (i:=3) ⟨H.has,H.blk 0 rfl⟩ (Lr (some 6) 26 ⟨g0,2,none⟩ (.int .i64 t.f_text.f_e) (H.cellB 0 rfl rfl) ?_)
  refine Sk hst [4] [0,1,2,3,4] [(0,.pointer (some ⟨g0,0,none⟩)),(7,.bool (t.f_text.f_e != 0))] ?_
  rw [show (t.f_text.f_e != 0)=true from hb2]
  refine Sk hst [5,6,7,8,9,10,11,12,13,14,15,16] [0,1,2,3,4,5,6,7,8,9,10,11,12,13,14,15,16] [(0,.pointer (some ⟨g0,0,none⟩)),(19,.bool true)] ?_
  refine Ed ⟨H.has,H.blk 0 rfl⟩ ?_
  refine Sg 5 [.co [1,0,1,0,1],.co [1,1]] [(2,.int .u8 0)] ?_
  refine Rr [2] [.int .u8 0] ?_
  obtain rfl:(0:UInt8)=r:=(Option.some.inj hf)
  exact ⟨_,rfl,m,rfl,H⟩
 ·have hst:statB (bodyOf Tryd.f37) [1,0,0]=true:=by kernel_rfl
  refine Dw (fun w' => Has m w' ∧ w'.heap[g0]?=some (.cells [.slice A0_0 t.f_text.f_b.length c0_0,.int .i64 t.f_text.f_at,.int .i64 t.f_text.f_e,.slice A0_3 t.f_l.length c0_3,.bool t.f_full,.bool t.f_more].toArray 56 (0,0))) H ?_
  intro w4 H
  refine Sk hst [0,1,2] [0,1,2] [(0,.pointer (some ⟨g0,0,none⟩)),(5,.pointer (some ⟨g0,2,none⟩))] ?_
  refine Sd (i:=3) ⟨H.has,H.blk 0 rfl⟩ (Lr (some 6) 26 ⟨g0,2,none⟩ (.int .i64 t.f_text.f_e) (H.cellB 0 rfl rfl) ?_)
  refine Sk hst [4] [0,1,2,3,4] [(0,.pointer (some ⟨g0,0,none⟩)),(7,.bool (t.f_text.f_e != 0))] ?_
  rw [show (t.f_text.f_e != 0)=false from hb2]
  refine Sk hst [5,6,7,8,10,11,12] [0,1,2,3,4,5,6,7,8,10,11,12] [(0,.pointer (some ⟨g0,0,none⟩)),(8,.bool false),(11,.pointer (some ⟨g0,1,none⟩)),(15,.pointer (some ⟨g0,0,none⟩))] ?_
  refine Tk (i:=9) (d:=(some 12)) (s:=vS (Instr.loadAt 3 (.pointer (some ⟨g0,1,none⟩)))) (v:=(.int .i64 t.f_text.f_at)) hst (fun w' hw' => ld_run _ _ _ (by kernel_rfl) (blk_cell hw'.2 rfl)) ?_
  refine Sd (i:=13) ⟨H.has,H.blk 0 rfl⟩ (Lr (some 16) 25 ⟨g0,0,none⟩ (.slice A0_0 t.f_text.f_b.length c0_0) (H.cellB 0 rfl rfl) ?_)
  refine Sk hst [14,15] [0,1,2,3,4,5,6,7,8,10,11,12,9,13,14,15] [(0,.pointer (some ⟨g0,0,none⟩)),(8,.bool false),(18,.bool (t.f_text.f_at == (t.f_text.f_b.length:Int)))] ?_
  refine Sk hst [16] [0,1,2,3,4,5,6,7,8,10,11,12,9,13,14,15,16] [(0,.pointer (some ⟨g0,0,none⟩)),(19,.bool (t.f_text.f_at == (t.f_text.f_b.length:Int)))] ?_
  refine Ed ⟨H.has,H.blk 0 rfl⟩ ?_
  rcases condT hf with ⟨hb6,hf⟩ | ⟨hb6,hf⟩
  ·rw [hb6]
   refine Sg 5 [.co [1,0,1,0,1],.co [1,1]] [(2,.int .u8 0)] ?_
   refine Rr [2] [.int .u8 0] ?_
   obtain rfl:(0:UInt8)=r:=(Option.some.inj hf)
   exact ⟨_,rfl,m,rfl,H⟩
  ·rw [hb6]
   refine Sg 3 [.co [1,1,0],.co [1,1,1]] [(0,.pointer (some ⟨g0,0,none⟩))] ?_
   obtain ⟨x_,h_x_,hf⟩:=bindE hf
   obtain ⟨i07,i17,ix7⟩:=idx_some h_x_
   have hst:statB (bodyOf Tryd.f37) [1,1,0]=true:=by kernel_rfl
   refine Dw (fun w' => Has m w' ∧ w'.heap[g0]?=some (.cells [.slice A0_0 t.f_text.f_b.length c0_0,.int .i64 t.f_text.f_at,.int .i64 t.f_text.f_e,.slice A0_3 t.f_l.length c0_3,.bool t.f_full,.bool t.f_more].toArray 56 (0,0))) H ?_
   intro w10 H
   refine Sk hst [0,1,2,4,5,6] [0,1,2,4,5,6] [(22,.pointer (some ⟨g0,0,none⟩)),(26,.pointer (some ⟨g0,1,none⟩))] ?_
   refine Tk (i:=3) (d:=(some 23)) (s:=vS (Instr.loadAt 25 (.pointer (some ⟨g0,0,none⟩)))) (v:=(.slice A0_0 t.f_text.f_b.length c0_0)) hst (fun w' hw' => ld_run _ _ _ (by kernel_rfl) (blk_cell hw'.2 rfl)) ?_
   refine Sd (i:=7) ⟨H.has,H.blk 0 rfl⟩ (Lr (some 27) 3 ⟨g0,1,none⟩ (.int .i64 t.f_text.f_at) (H.cellB 0 rfl rfl) ?_)
   obtain ⟨ad11,_,ea11,rfl,hc11⟩:=s0_0.at_ ix7 (by decide)
   refine Sd (i:=8) ⟨H.has,H.blk 0 rfl⟩ (Ix (some 28) 25 5 1 A0_0 ad11 t.f_text.f_b.length c0_0 .i64 t.f_text.f_at ea11 i07 i17 ?_)
   refine Sd (i:=9) ⟨H.has,H.blk 0 rfl⟩ (Lr (some 29) 5 (ad11.add (t.f_text.f_at.toNat * 1)) (.int .u8 (x_.toNat:Int)) (H.cellI (mc0 (hc11 0 _ rfl))) ?_)
   refine Sk hst [10] [0,1,2,4,5,6,3,7,8,9,10] [(2,.int .u8 (x_.toNat:Int))] ?_
   refine Ed ⟨H.has,H.blk 0 rfl⟩ ?_
   refine Rr [2] [.int .u8 (x_.toNat:Int)] ?_
   have hret:=(Option.some.inj hf)
   subst hret
   exact ⟨_,rfl,m,rfl,H⟩
theorem manifest_text_fail_c {m:Mem} {w:World} (hm:Has m w) (g0:Nat) (t:TManifestReader) (A0_0:Option Addr) (c0_0:Nat) (A0_3:Option Addr) (c0_3:Nat) (e_:Int) (at_:Int) {F:Nat → Prop} (hsep:Sep m w [blkI g0 [.slice A0_0 t.f_text.f_b.length c0_0,.int .i64 t.f_text.f_at,.int .i64 t.f_text.f_e,.slice A0_3 t.f_l.length c0_3,.bool t.f_full,.bool t.f_more] 56] F) (hF:∀ k,F k → m k=none) {r:TManifestReader} (hf:manifest_text_fail t e_ at_=some r) :
  Calls Tryd.prog 39 #[.pointer (some ⟨g0,0,none⟩),.int .i64 e_,.int .i64 at_] w fun e w' => ∃ v,e=.returned v ∧ ∃ m':Mem,v=.tuple #[] ∧ St w F m m' [blkI g0 [.slice A0_0 t.f_text.f_b.length c0_0,.int .i64 r.f_text.f_at,.int .i64 r.f_text.f_e,.slice A0_3 t.f_l.length c0_3,.bool r.f_full,.bool r.f_more] 56] w':=by
 unfold manifest_text_fail at hf
 have H:=St.start hm hsep hF
 refine Fc Tryd.func39 ?_
 refine Sg 5 [.op [0] 3,.co [1]] [(0,.pointer (some ⟨g0,0,none⟩)),(1,.int .i64 e_),(2,.int .i64 at_),(8,.pointer (some ⟨g0,2,none⟩))] ?_
 refine st (Lr (some 9) 26 ⟨g0,2,none⟩ (.int .i64 t.f_text.f_e) (H.cellB 0 rfl rfl) ?_)
 refine Sg 2 [.co [1]] [(0,.pointer (some ⟨g0,0,none⟩)),(1,.int .i64 e_),(2,.int .i64 at_),(10,.bool (t.f_text.f_e == 0))] ?_
 rcases condT hf with ⟨hb4,hf⟩ | ⟨hb4,hf⟩
 ·rw [hb4]
  refine Sg 8 [.op [1,0] 6] [(12,.pointer (some ⟨g0,0,none⟩)),(13,.int .i64 e_),(14,.int .i64 at_),(16,.pointer (some ⟨g0,2,none⟩))] ?_
  refine st (Ss none 26 0 g0 2 (.int .i64 e_) H rfl rfl (of_decide_eq_true rfl) ?_)
  intro w5 H
  refine Sg 2 [.op [1,0] 9] [(14,.int .i64 at_),(18,.pointer (some ⟨g0,1,none⟩))] ?_
  refine st (Ss none 3 0 g0 1 (.int .i64 at_) H rfl rfl (of_decide_eq_true rfl) ?_)
  intro w6 H
  refine Sg 1 [] [] ?_
  refine Er [] [] ?_
  obtain rfl:({ f_text:=({ f_b:=t.f_text.f_b,f_at:=at_,f_e:=e_ }:TManifestText),f_l:=t.f_l,f_full:=t.f_full,f_more:=t.f_more }:TManifestReader)=r:=(Option.some.inj hf)
  exact ⟨_,rfl,m,rfl,H⟩
 ·rw [hb4]
  refine Sg 2 [] [] ?_
  refine Er [] [] ?_
  have hret:=(Option.some.inj hf)
  subst hret
  exact ⟨_,rfl,m,rfl,H⟩
theorem manifest_text_want_c {m:Mem} {w:World} (hm:Has m w) (g0:Nat) (t:TManifestReader) (A0_0:Option Addr) (c0_0:Nat) (s0_0:SlI rU8 m A0_0 c0_0 t.f_text.f_b) (A0_3:Option Addr) (c0_3:Nat) (c:UInt8) {F:Nat → Prop} (hsep:Sep m w [blkI g0 [.slice A0_0 t.f_text.f_b.length c0_0,.int .i64 t.f_text.f_at,.int .i64 t.f_text.f_e,.slice A0_3 t.f_l.length c0_3,.bool t.f_full,.bool t.f_more] 56] F) (hF:∀ k,F k → m k=none) {r:TManifestReader} (hf:manifest_text_want t c=some r) :
  Calls Tryd.prog 50 #[.pointer (some ⟨g0,0,none⟩),.int .u8 (c.toNat:Int)] w fun e w' => ∃ v,e=.returned v ∧ ∃ Az_o0_0:Option Addr,∃ cz_o0_0:Nat,∃ m':Mem,v=.tuple #[] ∧ St w F m m' [blkI g0 [.slice Az_o0_0 r.f_text.f_b.length cz_o0_0,.int .i64 r.f_text.f_at,.int .i64 r.f_text.f_e,.slice A0_3 t.f_l.length c0_3,.bool r.f_full,.bool r.f_more] 56] w' ∧ SlI rU8 m' Az_o0_0 cz_o0_0 r.f_text.f_b:=by
 unfold manifest_text_want at hf
 have H:=St.start hm hsep hF
 refine Fc Tryd.func50 ?_
 refine Sg 4 [.op [0,0] 1,.co [0,1],.co [1]] [(0,.pointer (some ⟨g0,0,none⟩)),(1,.int .u8 (c.toNat:Int)),(4,.pointer (some ⟨g0,0,none⟩))] ?_
 obtain ⟨peek,h_peek,hf⟩:=bindE hf
 obtain ⟨F1,hse1,hFn1,hcl1⟩:=St.call [blkI g0 [.slice A0_0 t.f_text.f_b.length c0_0,.int .i64 t.f_text.f_at,.int .i64 t.f_text.f_e,.slice A0_3 t.f_l.length c0_3,.bool t.f_full,.bool t.f_more] 56] H
 refine st (Cl (some 5) 37 #[.pointer (some ⟨g0,0,none⟩)] Tryd.call37 (manifest_text_peek_c H.has g0 t A0_0 c0_0 s0_0 A0_3 c0_3 hse1 hFn1 h_peek) ?_)
 rintro _ w1 ⟨mk1,rfl,hS1⟩
 have hsub1:=hS1.sub
 replace H:=hcl1 _ _ _ hS1
 refine Sg 3 [.co [0,1],.co [1]] [(0,.pointer (some ⟨g0,0,none⟩)),(7,.bool ((peek.toNat:Int) != (c.toNat:Int)))] ?_
 rcases condT hf with ⟨hb4,hf⟩ | ⟨hb4,hf⟩
 ·rw [hb4]
  refine Sg 7 [.op [0,1,0,0] 4,.co [0,1,0,1],.co [1]] [(8,.pointer (some ⟨g0,0,none⟩)),(11,.pointer (some ⟨g0,1,none⟩))] ?_
  refine st (Lr (some 12) 3 ⟨g0,1,none⟩ (.int .i64 t.f_text.f_at) (H.cellB 0 rfl rfl) ?_)
  obtain ⟨fail,h_fail,hf⟩:=bindE hf
  obtain ⟨F5,hse5,hFn5,hcl5⟩:=St.call [blkI g0 [.slice A0_0 t.f_text.f_b.length c0_0,.int .i64 t.f_text.f_at,.int .i64 t.f_text.f_e,.slice A0_3 t.f_l.length c0_3,.bool t.f_full,.bool t.f_more] 56] H
  refine st (Cl (some 13) 39 #[.pointer (some ⟨g0,0,none⟩),.int .i64 6,.int .i64 t.f_text.f_at] Tryd.call39 (manifest_text_fail_c H.has g0 t A0_0 c0_0 A0_3 c0_3 6 t.f_text.f_at hse5 hFn5 h_fail) ?_)
  rintro _ w5 ⟨mk5,rfl,hS5⟩
  have hsub5:=hS5.sub
  replace H:=hcl5 _ _ _ hS5
  refine Sg 1 [.co [0,1,0,1],.co [1]] [] ?_
  refine Rr [] [] ?_
  obtain rfl:({ f_text:=({ f_b:=t.f_text.f_b,f_at:=fail.f_text.f_at,f_e:=fail.f_text.f_e }:TManifestText),f_l:=t.f_l,f_full:=fail.f_full,f_more:=fail.f_more }:TManifestReader)=r:=(Option.some.inj hf)
  exact ⟨_,rfl,A0_0,c0_0,mk5,rfl,H,(s0_0.mono (hsub1.trans hsub5))⟩
 ·rw [hb4]
  refine Sg 6 [.op [1] 3] [(14,.pointer (some ⟨g0,0,none⟩)),(16,.pointer (some ⟨g0,1,none⟩))] ?_
  refine st (Lr (some 17) 3 ⟨g0,1,none⟩ (.int .i64 t.f_text.f_at) (H.cellB 0 rfl rfl) ?_)
  refine Sg 3 [.op [1] 7] [(18,.int .i64 (IntKind.i64.wrap (t.f_text.f_at+1))),(20,.pointer (some ⟨g0,1,none⟩))] ?_
  refine st (Ss none 3 0 g0 1 (.int .i64 (IntKind.i64.wrap (t.f_text.f_at+1))) H rfl rfl (of_decide_eq_true rfl) ?_)
  intro w6 H
  refine Sg 1 [] [] ?_
  refine Er [] [] ?_
  obtain rfl:({ f_text:=({ f_b:=t.f_text.f_b,f_at:=(IntKind.i64.wrap (t.f_text.f_at+1)),f_e:=t.f_text.f_e }:TManifestText),f_l:=t.f_l,f_full:=t.f_full,f_more:=t.f_more }:TManifestReader)=r:=(Option.some.inj hf)
  exact ⟨_,rfl,A0_0,c0_0,mk1,rfl,H,(s0_0.mono hsub1)⟩
theorem manifest_digit_c {m:Mem} {w:World} (hm:Has m w) (c:UInt8) :
  Calls Tryd.prog 47 #[.int .u8 (c.toNat:Int)] w fun e w' => ∃ v,e=.returned v ∧ v=.int .i64 (manifest_digit c) ∧ Ex w w':=by
 generalize hf:manifest_digit c=r
 unfold manifest_digit at hf
 have H:=St.start0 hm
 refine Fc Tryd.func47 ?_
 refine Sg 11 [.op [1,0,0,0] 3,.co [1,0,0,1],.bl 0,.co [1,1]] [(0,.int .u8 (c.toNat:Int)),(6,.bool (decide ((c.toNat:Int) ≥ 48)))] ?_
 rcases condT hf with ⟨hb20,hf⟩ | ⟨hb20,hf⟩
 ·rw [hb20]
  have p20:=of_decide_eq_true hb20
  refine Sg 5 [.co [1,0,0,1],.bl 0,.co [1,1]] [(0,.int .u8 (c.toNat:Int)),(3,.bool (decide ((c.toNat:Int) ≤ 57)))] ?_
  rcases condT hf with ⟨hb21,hf⟩ | ⟨hb21,hf⟩
  ·rw [hb21]
   have p21:=of_decide_eq_true hb21
   refine Sg 8 [.co [1,0,0,1,0,1],.bl 0,.co [1,1]] [(2,.int .i64 (IntKind.i64.wrap (IntKind.u8.wrap ((c.toNat:Int) - 48))))] ?_
   rw [q8_sub c (48:UInt8) (c.toNat:Int) 48 (by rfl) (by rfl)]
   have:=(c - (48:UInt8)).toNat_lt
   rw [show IntKind.i64.wrap ((c - (48:UInt8)).toNat:Int)=((c - (48:UInt8)).toNat:Int) from w64 (by omega)]
   refine Rr [2] [.int .i64 ((c - (48:UInt8)).toNat:Int)] ?_
   obtain rfl:((c - (48:UInt8)).toNat:Int)=r:=hf
   exact ⟨_,rfl,rfl,H.scalar⟩
  ·rw [hb21]
   have p21:=of_decide_eq_false hb21
   refine Sg 6 [.op [1,0,0,1,1,0] 3,.co [1,0,0,1,1,1],.bl 0,.co [1,1]] [(0,.int .u8 (c.toNat:Int)),(16,.bool (decide ((c.toNat:Int) ≥ 97)))] ?_
   rcases condT hf with ⟨hb22,hf⟩ | ⟨hb22,hf⟩
   ·rw [hb22]
    have p22:=of_decide_eq_true hb22
    refine Sg 5 [.co [1,0,0,1,1,1],.bl 0,.co [1,1]] [(0,.int .u8 (c.toNat:Int)),(13,.bool (decide ((c.toNat:Int) ≤ 102)))] ?_
    rcases condT hf with ⟨hb23,hf⟩ | ⟨hb23,hf⟩
    ·rw [hb23]
     have p23:=of_decide_eq_true hb23
     refine Sg 9 [.co [1,0,0,1,1,1,0,1],.bl 0,.co [1,1]] [(2,.int .i64 (IntKind.i64.wrap ((IntKind.i64.wrap (IntKind.u8.wrap ((c.toNat:Int) - 97)))+10)))] ?_
     rw [q8_sub c (97:UInt8) (c.toNat:Int) 97 (by rfl) (by rfl)]
     have:=(c - (97:UInt8)).toNat_lt
     rw [show IntKind.i64.wrap ((c - (97:UInt8)).toNat:Int)=((c - (97:UInt8)).toNat:Int) from w64 (by omega)]
     have:=(c - (97:UInt8)).toNat_lt
     rw [show IntKind.i64.wrap (((c - (97:UInt8)).toNat:Int)+10)=(((c - (97:UInt8)).toNat:Int)+10) from w64 (by omega)]
     refine Rr [2] [.int .i64 (((c - (97:UInt8)).toNat:Int)+10)] ?_
     obtain rfl:(((c - (97:UInt8)).toNat:Int)+10)=r:=hf
     exact ⟨_,rfl,rfl,H.scalar⟩
    ·rw [hb23]
     have p23:=of_decide_eq_false hb23
     refine Sg 7 [.co [1,1,1]] [(2,.int .i64 (-1))] ?_
     refine Rr [2] [.int .i64 (-1)] ?_
     obtain rfl:(-1)=r:=hf
     exact ⟨_,rfl,rfl,H.scalar⟩
   ·rw [hb22]
    have p22:=of_decide_eq_false hb22
    refine Sg 12 [.co [1,1,1]] [(2,.int .i64 (-1))] ?_
    refine Rr [2] [.int .i64 (-1)] ?_
    obtain rfl:(-1)=r:=hf
    exact ⟨_,rfl,rfl,H.scalar⟩
 ·rw [hb20]
  have p20:=of_decide_eq_false hb20
  refine Sg 11 [.op [1,0,0,1,1,0] 3,.co [1,0,0,1,1,1],.bl 0,.co [1,1]] [(0,.int .u8 (c.toNat:Int)),(16,.bool (decide ((c.toNat:Int) ≥ 97)))] ?_
  rcases condT hf with ⟨hb24,hf⟩ | ⟨hb24,hf⟩
  ·rw [hb24]
   have p24:=of_decide_eq_true hb24
   refine Sg 5 [.co [1,0,0,1,1,1],.bl 0,.co [1,1]] [(0,.int .u8 (c.toNat:Int)),(13,.bool (decide ((c.toNat:Int) ≤ 102)))] ?_
   rcases condT hf with ⟨hb25,hf⟩ | ⟨hb25,hf⟩
   ·rw [hb25]
    have p25:=of_decide_eq_true hb25
    refine Sg 9 [.co [1,0,0,1,1,1,0,1],.bl 0,.co [1,1]] [(2,.int .i64 (IntKind.i64.wrap ((IntKind.i64.wrap (IntKind.u8.wrap ((c.toNat:Int) - 97)))+10)))] ?_
    rw [q8_sub c (97:UInt8) (c.toNat:Int) 97 (by rfl) (by rfl)]
    have:=(c - (97:UInt8)).toNat_lt
    rw [show IntKind.i64.wrap ((c - (97:UInt8)).toNat:Int)=((c - (97:UInt8)).toNat:Int) from w64 (by omega)]
    have:=(c - (97:UInt8)).toNat_lt
    rw [show IntKind.i64.wrap (((c - (97:UInt8)).toNat:Int)+10)=(((c - (97:UInt8)).toNat:Int)+10) from w64 (by omega)]
    refine Rr [2] [.int .i64 (((c - (97:UInt8)).toNat:Int)+10)] ?_
    obtain rfl:(((c - (97:UInt8)).toNat:Int)+10)=r:=hf
    exact ⟨_,rfl,rfl,H.scalar⟩
   ·rw [hb25]
    have p25:=of_decide_eq_false hb25
    refine Sg 7 [.co [1,1,1]] [(2,.int .i64 (-1))] ?_
    refine Rr [2] [.int .i64 (-1)] ?_
    obtain rfl:(-1)=r:=hf
    exact ⟨_,rfl,rfl,H.scalar⟩
  ·rw [hb24]
   have p24:=of_decide_eq_false hb24
   refine Sg 12 [.co [1,1,1]] [(2,.int .i64 (-1))] ?_
   refine Rr [2] [.int .i64 (-1)] ?_
   obtain rfl:(-1)=r:=hf
   exact ⟨_,rfl,rfl,H.scalar⟩
theorem manifest_reader_number_c {m:Mem} {w:World} (hm:Has m w) (g0:Nat) (r_:TManifestReader) (A0_0:Option Addr) (c0_0:Nat) (s0_0:SlI rU8 m A0_0 c0_0 r_.f_text.f_b) (A0_3:Option Addr) (c0_3:Nat) (base:Int) {F:Nat → Prop} (hsep:Sep m w [blkI g0 [.slice A0_0 r_.f_text.f_b.length c0_0,.int .i64 r_.f_text.f_at,.int .i64 r_.f_text.f_e,.slice A0_3 r_.f_l.length c0_3,.bool r_.f_full,.bool r_.f_more] 56] F) (hF:∀ k,F k → m k=none) {r:(Int × TManifestReader)} (hf:manifest_reader_number r_ base=some r) :
  Calls Tryd.prog 49 #[.pointer (some ⟨g0,0,none⟩),.int .i64 base] w fun e w' => ∃ v,e=.returned v ∧ ∃ Az_o0_0:Option Addr,∃ cz_o0_0:Nat,∃ m':Mem,v=.int .i64 r.1 ∧ St w F m m' [blkI g0 [.slice Az_o0_0 r.2.f_text.f_b.length cz_o0_0,.int .i64 r.2.f_text.f_at,.int .i64 r.2.f_text.f_e,.slice A0_3 r_.f_l.length c0_3,.bool r.2.f_full,.bool r.2.f_more] 56] w' ∧ SlI rU8 m' Az_o0_0 cz_o0_0 r.2.f_text.f_b:=by
 unfold manifest_reader_number at hf
 have H:=St.start hm hsep hF
 refine Fc Tryd.func49 ?_
 refine Sg 9 [.op [1,0] 3,.co [1,1]] [(0,.pointer (some ⟨g0,0,none⟩)),(1,.int .i64 base),(11,.pointer (some ⟨g0,0,none⟩))] ?_
 obtain ⟨want,h_want,hf⟩:=bindE hf
 obtain ⟨F1,hse1,hFn1,hcl1⟩:=St.call [blkI g0 [.slice A0_0 r_.f_text.f_b.length c0_0,.int .i64 r_.f_text.f_at,.int .i64 r_.f_text.f_e,.slice A0_3 r_.f_l.length c0_3,.bool r_.f_full,.bool r_.f_more] 56] H
 refine st (Cl (some 12) 50 #[.pointer (some ⟨g0,0,none⟩),.int .u8 32] Tryd.call50 (manifest_text_want_c H.has g0 r_ A0_0 c0_0 s0_0 A0_3 c0_3 (32:UInt8) hse1 hFn1 h_want) ?_)
 rintro _ w1 ⟨A1_o0_0,c1_o0_0,mk1,rfl,hS1,hs1_0⟩
 have hsub1:=hS1.sub
 replace H:=hcl1 _ _ _ hS1
 refine Sg 7 [.op [1,1,0] 4,.co [1,1,1]] [(0,.pointer (some ⟨g0,0,none⟩)),(1,.int .i64 base),(16,.pointer (some ⟨g0,1,none⟩))] ?_
 refine st (Lr (some 17) 3 ⟨g0,1,none⟩ (.int .i64 want.f_text.f_at) (H.cellB 0 rfl rfl) ?_)
 refine Sg 8 [.co [1,1,1,1,0],.co [1,1,1,1,1]] [(0,.pointer (some ⟨g0,0,none⟩)),(1,.int .i64 base),(5,.int .i64 want.f_text.f_at),(6,.int .i64 0),(7,.int .i64 0)] ?_
 obtain ⟨y140,hp140,hfl140,hfr140⟩:=bndE hf
 refine joinR 0 (fun (x:Int × Int × Int × Mem) => [(0,.pointer (some ⟨g0,0,none⟩)),(5,.int .i64 want.f_text.f_at),(6,.int .i64 x.2.1),(7,.int .i64 x.2.2.1)]) (fun (x:Int × Int × Int × Mem) (wj140:World) => y140=.inl (x.1,x.2.1,x.2.2.1) ∧ St w F m x.2.2.2 [blkI g0 [.slice A1_o0_0 want.f_text.f_b.length c1_o0_0,.int .i64 x.1,.int .i64 want.f_text.f_e,.slice A0_3 r_.f_l.length c0_3,.bool want.f_full,.bool want.f_more] 56] wj140 ∧ Sub mk1 x.2.2.2) (by kernel_rfl) ?_ ?_
 ·refine Sg 1 [.co [1,1,1,1,0,0],.bl 0,.le 0,.co [1,1,1,1,1]] [(0,.pointer (some ⟨g0,0,none⟩)),(1,.int .i64 base),(5,.int .i64 want.f_text.f_at),(6,.int .i64 0),(7,.int .i64 0)] ?_
  obtain ⟨nn182,hR182⟩:=loopO_iff.1 hp140
  refine Lp 1 (fun (x:Nat × Int × Int × Int × Mem) => [(0,.pointer (some ⟨g0,0,none⟩)),(1,.int .i64 base),(5,.int .i64 want.f_text.f_at),(6,.int .i64 x.2.2.1),(7,.int .i64 x.2.2.2.1)]) (fun (x:Nat × Int × Int × Int × Mem) (wl182:World) => iter (fun s => manifest_reader_number_l1 r_ base want s.1 s.2.1 s.2.2) x.1 (x.2.1,x.2.2.1,x.2.2.2.1)=some y140 ∧ St w F m x.2.2.2.2 [blkI g0 [.slice A1_o0_0 want.f_text.f_b.length c1_o0_0,.int .i64 x.2.1,.int .i64 want.f_text.f_e,.slice A0_3 r_.f_l.length c0_3,.bool want.f_full,.bool want.f_more] 56] wl182 ∧ Sub mk1 x.2.2.2.2) (fun (x:Nat × Int × Int × Int × Mem) => x.1) (nn182,want.f_text.f_at,0,0,mk1) ?_ ?_
  ·exact ⟨hR182,H,(Sub.refl _)⟩
  rintro ⟨n182,at_,n_,count,mm183⟩ wl182 ⟨hR182,H,hsub183⟩
  try dsimp only at hR182
  try dsimp only at H
  try dsimp only at hsub183
  obtain ⟨nk182,q182,rfl,hb_182,hnx182,hfin182⟩:=iterE hR182
  replace hb_182:manifest_reader_number_l1 r_ base want at_ n_ count=some q182:=hb_182
  unfold manifest_reader_number_l1 at hb_182
  refine Sg 7 [.op [1,1,1,1,0,0,0,0,0] 4,.co [1,1,1,1,0,0,0,0,1],.co [1,1,1,1,0,0,0,1],.le 1,.bl 0,.le 0,.co [1,1,1,1,1]] [(0,.pointer (some ⟨g0,0,none⟩)),(1,.int .i64 base),(5,.int .i64 want.f_text.f_at),(6,.int .i64 n_),(7,.int .i64 count),(21,.pointer (some ⟨g0,2,none⟩))] ?_
  refine st (Lr (some 22) 26 ⟨g0,2,none⟩ (.int .i64 want.f_text.f_e) (H.cellB 0 rfl rfl) ?_)
  refine Sg 2 [.co [1,1,1,1,0,0,0,0,1],.co [1,1,1,1,0,0,0,1],.le 1,.bl 0,.le 0,.co [1,1,1,1,1]] [(0,.pointer (some ⟨g0,0,none⟩)),(1,.int .i64 base),(5,.int .i64 want.f_text.f_at),(6,.int .i64 n_),(7,.int .i64 count),(23,.bool (want.f_text.f_e == 0))] ?_
  rcases condT hb_182 with ⟨hb184,hb_182⟩ | ⟨hb184,hb_182⟩
  ·rw [hb184]
   refine Sg 8 [.op [1,1,1,1,0,0,0,1,0,0] 3,.co [1,1,1,1,0,0,0,1,0,1],.bl 1,.le 1,.bl 0,.le 0,.co [1,1,1,1,1]] [(0,.pointer (some ⟨g0,0,none⟩)),(1,.int .i64 base),(5,.int .i64 want.f_text.f_at),(6,.int .i64 n_),(7,.int .i64 count),(26,.pointer (some ⟨g0,0,none⟩))] ?_
   obtain ⟨peek,h_peek,hb_182⟩:=bindE hb_182
   obtain ⟨F185,hse185,hFn185,hcl185⟩:=St.call [blkI g0 [.slice A1_o0_0 want.f_text.f_b.length c1_o0_0,.int .i64 at_,.int .i64 want.f_text.f_e,.slice A0_3 r_.f_l.length c0_3,.bool want.f_full,.bool want.f_more] 56] H
   refine st (Cl (some 27) 37 #[.pointer (some ⟨g0,0,none⟩)] Tryd.call37 (manifest_text_peek_c H.has g0 ({ f_text:=({ f_b:=want.f_text.f_b,f_at:=at_,f_e:=want.f_text.f_e }:TManifestText),f_l:=r_.f_l,f_full:=want.f_full,f_more:=want.f_more }:TManifestReader) A1_o0_0 c1_o0_0 (hs1_0.mono hsub183) A0_3 c0_3 hse185 hFn185 h_peek) ?_)
   rintro _ w185 ⟨mk185,rfl,hS185⟩
   have hsub185:=hS185.sub
   replace H:=hcl185 _ _ _ hS185
   replace H:St w F m mk185 [blkI g0 [.slice A1_o0_0 want.f_text.f_b.length c1_o0_0,.int .i64 at_,.int .i64 want.f_text.f_e,.slice A0_3 r_.f_l.length c0_3,.bool want.f_full,.bool want.f_more] 56] w185:=H
   refine st (Cl (some 28) 47 #[.int .u8 (peek.toNat:Int)] Tryd.call47 (manifest_digit_c H.has peek) ?_)
   rintro _ w186 ⟨rfl,hx186⟩
   replace H:=H.ex hx186
   refine Sg 4 [.co [1,1,1,1,0,0,0,1,0,1,0,0],.co [1,1,1,1,0,0,0,1,0,1,0,1],.co [1,1,1,1,0,0,0,1,0,1,1],.bl 1,.le 1,.bl 0,.le 0,.co [1,1,1,1,1]] [(0,.pointer (some ⟨g0,0,none⟩)),(1,.int .i64 base),(5,.int .i64 want.f_text.f_at),(6,.int .i64 n_),(7,.int .i64 count),(8,.int .i64 (manifest_digit peek))] ?_
   rcases condT hb_182 with ⟨hb187,hb_182⟩ | ⟨hb187,hb_182⟩
   ·have p187:=of_decide_eq_true hb187
    have hst:statB (bodyOf Tryd.f49) [1,1,1,1,0,0,0,1,0,1,0,0]=true:=by kernel_rfl
    refine Dw (fun w' => Has mk185 w' ∧ w'.heap[g0]?=some (.cells [.slice A1_o0_0 want.f_text.f_b.length c1_o0_0,.int .i64 at_,.int .i64 want.f_text.f_e,.slice A0_3 r_.f_l.length c0_3,.bool want.f_full,.bool want.f_more].toArray 56 (0,0))) H ?_
    intro w188 H
    refine Sk hst [0,1] [0,1] [(0,.pointer (some ⟨g0,0,none⟩)),(1,.int .i64 base),(5,.int .i64 want.f_text.f_at),(6,.int .i64 n_),(7,.int .i64 count),(8,.int .i64 (manifest_digit peek)),(30,.bool (decide ((manifest_digit peek) < 0)))] ?_
    rw [show (decide ((manifest_digit peek) < 0))=true from hb187]
    refine Sk hst [2,3,4,5,6,7,8,9,10,11,12,13,14,15,16,17,18,19,20] [0,1,2,3,4,5,6,7,8,9,10,11,12,13,14,15,16,17,18,19,20] [(0,.pointer (some ⟨g0,0,none⟩)),(1,.int .i64 base),(5,.int .i64 want.f_text.f_at),(6,.int .i64 n_),(7,.int .i64 count),(8,.int .i64 (manifest_digit peek)),(49,.bool true)] ?_
    refine Ed ⟨H.has,H.blk 0 rfl⟩ ?_
    refine Sg 2 [.le 0,.co [1,1,1,1,1]] [(0,.pointer (some ⟨g0,0,none⟩)),(5,.int .i64 want.f_text.f_at),(6,.int .i64 n_),(7,.int .i64 count)] ?_
    refine leR_up (k':=[]) (by rfl) ?_
    refine Lj (at_,n_,count,mk185) ⟨(hfin182 _ (Option.some.inj hb_182).symm).symm,H,(hsub183.trans hsub185)⟩
   ·have p187:=of_decide_eq_false hb187
    rcases condT hb_182 with ⟨hb189,hb_182⟩ | ⟨hb189,hb_182⟩
    ·have p189:=of_decide_eq_true hb189
     have hst:statB (bodyOf Tryd.f49) [1,1,1,1,0,0,0,1,0,1,0,0]=true:=by kernel_rfl
     refine Dw (fun w' => Has mk185 w' ∧ w'.heap[g0]?=some (.cells [.slice A1_o0_0 want.f_text.f_b.length c1_o0_0,.int .i64 at_,.int .i64 want.f_text.f_e,.slice A0_3 r_.f_l.length c0_3,.bool want.f_full,.bool want.f_more].toArray 56 (0,0))) H ?_
     intro w190 H
     refine Sk hst [0,1] [0,1] [(0,.pointer (some ⟨g0,0,none⟩)),(1,.int .i64 base),(5,.int .i64 want.f_text.f_at),(6,.int .i64 n_),(7,.int .i64 count),(8,.int .i64 (manifest_digit peek)),(30,.bool (decide ((manifest_digit peek) < 0)))] ?_
     rw [show (decide ((manifest_digit peek) < 0))=false from hb187]
     refine Sk hst [2,3,4,5] [0,1,2,3,4,5] [(0,.pointer (some ⟨g0,0,none⟩)),(1,.int .i64 base),(5,.int .i64 want.f_text.f_at),(6,.int .i64 n_),(7,.int .i64 count),(8,.int .i64 (manifest_digit peek)),(31,.bool false),(34,.bool (decide ((manifest_digit peek) ≥ base)))] ?_
     rw [show (decide ((manifest_digit peek) ≥ base))=true from hb189]
     refine Sk hst [6,7,8,9,10,11,12,13,14,15,16,17,18,19,20] [0,1,2,3,4,5,6,7,8,9,10,11,12,13,14,15,16,17,18,19,20] [(0,.pointer (some ⟨g0,0,none⟩)),(1,.int .i64 base),(5,.int .i64 want.f_text.f_at),(6,.int .i64 n_),(7,.int .i64 count),(8,.int .i64 (manifest_digit peek)),(49,.bool true)] ?_
     refine Ed ⟨H.has,H.blk 0 rfl⟩ ?_
     refine Sg 2 [.le 0,.co [1,1,1,1,1]] [(0,.pointer (some ⟨g0,0,none⟩)),(5,.int .i64 want.f_text.f_at),(6,.int .i64 n_),(7,.int .i64 count)] ?_
     refine leR_up (k':=[]) (by rfl) ?_
     refine Lj (at_,n_,count,mk185) ⟨(hfin182 _ (Option.some.inj hb_182).symm).symm,H,(hsub183.trans hsub185)⟩
    ·have p189:=of_decide_eq_false hb189
     have hst:statB (bodyOf Tryd.f49) [1,1,1,1,0,0,0,1,0,1,0,0]=true:=by kernel_rfl
     refine Dw (fun w' => Has mk185 w' ∧ w'.heap[g0]?=some (.cells [.slice A1_o0_0 want.f_text.f_b.length c1_o0_0,.int .i64 at_,.int .i64 want.f_text.f_e,.slice A0_3 r_.f_l.length c0_3,.bool want.f_full,.bool want.f_more].toArray 56 (0,0))) H ?_
     intro w191 H
     refine Sk hst [0,1] [0,1] [(0,.pointer (some ⟨g0,0,none⟩)),(1,.int .i64 base),(5,.int .i64 want.f_text.f_at),(6,.int .i64 n_),(7,.int .i64 count),(8,.int .i64 (manifest_digit peek)),(30,.bool (decide ((manifest_digit peek) < 0)))] ?_
     rw [show (decide ((manifest_digit peek) < 0))=false from hb187]
     refine Sk hst [2,3,4,5] [0,1,2,3,4,5] [(0,.pointer (some ⟨g0,0,none⟩)),(1,.int .i64 base),(5,.int .i64 want.f_text.f_at),(6,.int .i64 n_),(7,.int .i64 count),(8,.int .i64 (manifest_digit peek)),(31,.bool false),(34,.bool (decide ((manifest_digit peek) ≥ base)))] ?_
     rw [show (decide ((manifest_digit peek) ≥ base))=false from hb189]
     refine Sk hst [6,7,8,9,10,11,13,14,15,16] [0,1,2,3,4,5,6,7,8,9,10,11,13,14,15,16] [(0,.pointer (some ⟨g0,0,none⟩)),(1,.int .i64 base),(5,.int .i64 want.f_text.f_at),(6,.int .i64 n_),(7,.int .i64 count),(8,.int .i64 (manifest_digit peek)),(36,.bool false),(40,.pointer (some ⟨g0,1,none⟩)),(45,.pointer (some ⟨g0,0,none⟩))] ?_
     refine Tk (i:=12) (d:=(some 41)) (s:=vS (Instr.loadAt 3 (.pointer (some ⟨g0,1,none⟩)))) (v:=(.int .i64 at_)) hst (fun w' hw' => ld_run _ _ _ (by kernel_rfl) (blk_cell hw'.2 rfl)) ?_
     refine Sd (i:=17) ⟨H.has,H.blk 0 rfl⟩ (Lr (some 46) 25 ⟨g0,0,none⟩ (.slice A1_o0_0 want.f_text.f_b.length c1_o0_0) (H.cellB 0 rfl rfl) ?_)
     refine Sk hst [18,19] [0,1,2,3,4,5,6,7,8,9,10,11,13,14,15,16,12,17,18,19] [(0,.pointer (some ⟨g0,0,none⟩)),(1,.int .i64 base),(5,.int .i64 want.f_text.f_at),(6,.int .i64 n_),(7,.int .i64 count),(8,.int .i64 (manifest_digit peek)),(36,.bool false),(48,.bool (at_ == (want.f_text.f_b.length:Int)))] ?_
     refine Sk hst [20] [0,1,2,3,4,5,6,7,8,9,10,11,13,14,15,16,12,17,18,19,20] [(0,.pointer (some ⟨g0,0,none⟩)),(1,.int .i64 base),(5,.int .i64 want.f_text.f_at),(6,.int .i64 n_),(7,.int .i64 count),(8,.int .i64 (manifest_digit peek)),(49,.bool (at_ == (want.f_text.f_b.length:Int)))] ?_
     refine Ed ⟨H.has,H.blk 0 rfl⟩ ?_
     rcases condT hb_182 with ⟨hb192,hb_182⟩ | ⟨hb192,hb_182⟩
     ·rw [hb192]
      refine Sg 2 [.le 0,.co [1,1,1,1,1]] [(0,.pointer (some ⟨g0,0,none⟩)),(5,.int .i64 want.f_text.f_at),(6,.int .i64 n_),(7,.int .i64 count)] ?_
      refine leR_up (k':=[]) (by rfl) ?_
      refine Lj (at_,n_,count,mk185) ⟨(hfin182 _ (Option.some.inj hb_182).symm).symm,H,(hsub183.trans hsub185)⟩
     ·rw [hb192]
      refine Sg 8 [.op [1,1,1,1,0,0,0,1,0,1,1,0,0] 3,.co [1,1,1,1,0,0,0,1,0,1,1,0,1],.co [1,1,1,1,0,0,0,1,0,1,1,1],.bl 1,.le 1,.bl 0,.le 0,.co [1,1,1,1,1]] [(0,.pointer (some ⟨g0,0,none⟩)),(1,.int .i64 base),(5,.int .i64 want.f_text.f_at),(6,.int .i64 n_),(7,.int .i64 count),(8,.int .i64 (manifest_digit peek)),(52,.bool (count == 1))] ?_
      rcases condT hb_182 with ⟨hb193,hb_182⟩ | ⟨hb193,hb_182⟩
      ·rw [hb193]
       refine Sg 4 [.co [1,1,1,1,0,0,0,1,0,1,1,0,1],.co [1,1,1,1,0,0,0,1,0,1,1,1],.bl 1,.le 1,.bl 0,.le 0,.co [1,1,1,1,1]] [(0,.pointer (some ⟨g0,0,none⟩)),(1,.int .i64 base),(5,.int .i64 want.f_text.f_at),(6,.int .i64 n_),(7,.int .i64 count),(8,.int .i64 (manifest_digit peek)),(55,.bool (n_ == 0))] ?_
       rcases condT hb_182 with ⟨hb194,hb_182⟩ | ⟨hb194,hb_182⟩
       ·rw [hb194]
        refine Sg 2 [.co [1,1,1,1,0,0,0,1,0,1,1,0,1,0,0],.co [1,1,1,1,0,0,0,1,0,1,1,0,1,0,1],.co [1,1,1,1,0,0,0,1,0,1,1,1],.bl 1,.le 1,.bl 0,.le 0,.co [1,1,1,1,1]] [(0,.pointer (some ⟨g0,0,none⟩))] ?_
        obtain ⟨fail,h_fail,hb_182⟩:=bindE hb_182
        have hst:statB (bodyOf Tryd.f49) [1,1,1,1,0,0,0,1,0,1,1,0,1,0,0]=true:=by kernel_rfl
        refine Dw (Has mk185) H ?_
        intro w196 H
        refine Sk hst [0,1,2,3,4,5,6] [0,1,2,3,4,5,6] [(58,.pointer (some ⟨g0,0,none⟩)),(62,.pointer (some ⟨g0,1,none⟩))] ?_
        refine Sd (i:=7) H.has (Lr (some 63) 3 ⟨g0,1,none⟩ (.int .i64 at_) (H.cellB 0 rfl rfl) ?_)
        obtain ⟨F197,hse197,hFn197,hcl197⟩:=St.call [blkI g0 [.slice A1_o0_0 want.f_text.f_b.length c1_o0_0,.int .i64 at_,.int .i64 want.f_text.f_e,.slice A0_3 r_.f_l.length c0_3,.bool want.f_full,.bool want.f_more] 56] H
        refine Sd (i:=8) H.has (Cl (some 64) 39 #[.pointer (some ⟨g0,0,none⟩),.int .i64 6,.int .i64 at_] Tryd.call39 (manifest_text_fail_c H.has g0 ({ f_text:=({ f_b:=want.f_text.f_b,f_at:=at_,f_e:=want.f_text.f_e }:TManifestText),f_l:=r_.f_l,f_full:=want.f_full,f_more:=want.f_more }:TManifestReader) A1_o0_0 c1_o0_0 A0_3 c0_3 6 at_ hse197 hFn197 h_fail) ?_)
        rintro _ w197 ⟨mk197,rfl,hS197⟩
        have hsub197:=hS197.sub
        replace H:=hcl197 _ _ _ hS197
        refine Ed (H.has.sub hsub197) ?_
        refine Sg 4 [.co [1,1,1,1,0,0,0,1,0,1,1,0,1,0,1,1],.co [1,1,1,1,0,0,0,1,0,1,1,1],.bl 1,.le 1,.bl 0,.le 0,.co [1,1,1,1,1]] [(4,.int .i64 0)] ?_
        refine Rr [4] [.int .i64 0] ?_
        obtain rfl:(0,({ f_text:=({ f_b:=want.f_text.f_b,f_at:=fail.f_text.f_at,f_e:=fail.f_text.f_e }:TManifestText),f_l:=r_.f_l,f_full:=fail.f_full,f_more:=fail.f_more }:TManifestReader))=r:=(hfr140 _ (hfin182 _ (Option.some.inj hb_182).symm).symm)
        exact ⟨_,rfl,A1_o0_0,c1_o0_0,mk197,rfl,H,(hs1_0.mono ((hsub183.trans hsub185).trans hsub197))⟩
       ·rw [hb194]
        refine Sg 8 [.co [1,1,1,1,0,0,0,1,0,1,1,1,0,1],.co [1,1,1,1,0,0,0,1,0,1,1,1,1],.bl 1,.le 1,.bl 0,.le 0,.co [1,1,1,1,1]] [(0,.pointer (some ⟨g0,0,none⟩)),(1,.int .i64 base),(5,.int .i64 want.f_text.f_at),(6,.int .i64 n_),(7,.int .i64 count),(8,.int .i64 (manifest_digit peek)),(66,.bool (decide (n_ ≤ 1099511627776)))] ?_
        rcases condT hb_182 with ⟨hb198,hb_182⟩ | ⟨hb198,hb_182⟩
        ·rw [hb198]
         have p198:=of_decide_eq_true hb198
         refine Sg 20 [.op [1,1,1,1,0,0,0,1,0,1,1,1,1,1] 4,.bl 1,.le 1,.bl 0,.le 0,.co [1,1,1,1,1]] [(0,.pointer (some ⟨g0,0,none⟩)),(1,.int .i64 base),(5,.int .i64 want.f_text.f_at),(6,.int .i64 (IntKind.i64.wrap ((IntKind.i64.wrap (n_ * base))+(manifest_digit peek)))),(7,.int .i64 (IntKind.i64.wrap (count+1))),(74,.pointer (some ⟨g0,0,none⟩)),(77,.pointer (some ⟨g0,1,none⟩))] ?_
         refine st (Lr (some 78) 3 ⟨g0,1,none⟩ (.int .i64 at_) (H.cellB 0 rfl rfl) ?_)
         refine Sg 4 [.op [1,1,1,1,0,0,0,1,0,1,1,1,1,1] 9,.bl 1,.le 1,.bl 0,.le 0,.co [1,1,1,1,1]] [(0,.pointer (some ⟨g0,0,none⟩)),(1,.int .i64 base),(5,.int .i64 want.f_text.f_at),(6,.int .i64 (IntKind.i64.wrap ((IntKind.i64.wrap (n_ * base))+(manifest_digit peek)))),(7,.int .i64 (IntKind.i64.wrap (count+1))),(79,.int .i64 (IntKind.i64.wrap (at_+1))),(82,.pointer (some ⟨g0,1,none⟩))] ?_
         refine st (Ss none 3 0 g0 1 (.int .i64 (IntKind.i64.wrap (at_+1))) H rfl rfl (of_decide_eq_true rfl) ?_)
         intro w199 H
         refine Sg 2 [.le 1,.bl 0,.le 0,.co [1,1,1,1,1]] [(0,.pointer (some ⟨g0,0,none⟩)),(1,.int .i64 base),(5,.int .i64 want.f_text.f_at),(6,.int .i64 (IntKind.i64.wrap ((IntKind.i64.wrap (n_ * base))+(manifest_digit peek)))),(7,.int .i64 (IntKind.i64.wrap (count+1)))] ?_
         refine Lq (nk182,(IntKind.i64.wrap (at_+1)),(IntKind.i64.wrap ((IntKind.i64.wrap (n_ * base))+(manifest_digit peek))),(IntKind.i64.wrap (count+1)),mk185) (Nat.lt_succ_self _) ⟨hnx182 _ (Option.some.inj hb_182).symm,H,(hsub183.trans hsub185)⟩
        ·rw [hb198]
         have p198:=of_decide_eq_false hb198
         refine Sg 13 [.op [1,1,1,1,0,0,0,1,0,1,1,1,1,1] 4,.bl 1,.le 1,.bl 0,.le 0,.co [1,1,1,1,1]] [(0,.pointer (some ⟨g0,0,none⟩)),(1,.int .i64 base),(5,.int .i64 want.f_text.f_at),(6,.int .i64 n_),(7,.int .i64 (IntKind.i64.wrap (count+1))),(74,.pointer (some ⟨g0,0,none⟩)),(77,.pointer (some ⟨g0,1,none⟩))] ?_
         replace H:St w F m mk185 [blkI g0 [.slice A1_o0_0 want.f_text.f_b.length c1_o0_0,.int .i64 at_,.int .i64 want.f_text.f_e,.slice A0_3 r_.f_l.length c0_3,.bool want.f_full,.bool want.f_more] 56] w191:=H
         refine st (Lr (some 78) 3 ⟨g0,1,none⟩ (.int .i64 at_) (H.cellB 0 rfl rfl) ?_)
         refine Sg 4 [.op [1,1,1,1,0,0,0,1,0,1,1,1,1,1] 9,.bl 1,.le 1,.bl 0,.le 0,.co [1,1,1,1,1]] [(0,.pointer (some ⟨g0,0,none⟩)),(1,.int .i64 base),(5,.int .i64 want.f_text.f_at),(6,.int .i64 n_),(7,.int .i64 (IntKind.i64.wrap (count+1))),(79,.int .i64 (IntKind.i64.wrap (at_+1))),(82,.pointer (some ⟨g0,1,none⟩))] ?_
         refine st (Ss none 3 0 g0 1 (.int .i64 (IntKind.i64.wrap (at_+1))) H rfl rfl (of_decide_eq_true rfl) ?_)
         intro w200 H
         refine Sg 2 [.le 1,.bl 0,.le 0,.co [1,1,1,1,1]] [(0,.pointer (some ⟨g0,0,none⟩)),(1,.int .i64 base),(5,.int .i64 want.f_text.f_at),(6,.int .i64 n_),(7,.int .i64 (IntKind.i64.wrap (count+1)))] ?_
         refine Lq (nk182,(IntKind.i64.wrap (at_+1)),n_,(IntKind.i64.wrap (count+1)),mk185) (Nat.lt_succ_self _) ⟨hnx182 _ (Option.some.inj hb_182).symm,H,(hsub183.trans hsub185)⟩
      ·rw [hb193]
       refine Sg 12 [.co [1,1,1,1,0,0,0,1,0,1,1,1,0,1],.co [1,1,1,1,0,0,0,1,0,1,1,1,1],.bl 1,.le 1,.bl 0,.le 0,.co [1,1,1,1,1]] [(0,.pointer (some ⟨g0,0,none⟩)),(1,.int .i64 base),(5,.int .i64 want.f_text.f_at),(6,.int .i64 n_),(7,.int .i64 count),(8,.int .i64 (manifest_digit peek)),(66,.bool (decide (n_ ≤ 1099511627776)))] ?_
       rcases condT hb_182 with ⟨hb201,hb_182⟩ | ⟨hb201,hb_182⟩
       ·rw [hb201]
        have p201:=of_decide_eq_true hb201
        refine Sg 20 [.op [1,1,1,1,0,0,0,1,0,1,1,1,1,1] 4,.bl 1,.le 1,.bl 0,.le 0,.co [1,1,1,1,1]] [(0,.pointer (some ⟨g0,0,none⟩)),(1,.int .i64 base),(5,.int .i64 want.f_text.f_at),(6,.int .i64 (IntKind.i64.wrap ((IntKind.i64.wrap (n_ * base))+(manifest_digit peek)))),(7,.int .i64 (IntKind.i64.wrap (count+1))),(74,.pointer (some ⟨g0,0,none⟩)),(77,.pointer (some ⟨g0,1,none⟩))] ?_
        refine st (Lr (some 78) 3 ⟨g0,1,none⟩ (.int .i64 at_) (H.cellB 0 rfl rfl) ?_)
        refine Sg 4 [.op [1,1,1,1,0,0,0,1,0,1,1,1,1,1] 9,.bl 1,.le 1,.bl 0,.le 0,.co [1,1,1,1,1]] [(0,.pointer (some ⟨g0,0,none⟩)),(1,.int .i64 base),(5,.int .i64 want.f_text.f_at),(6,.int .i64 (IntKind.i64.wrap ((IntKind.i64.wrap (n_ * base))+(manifest_digit peek)))),(7,.int .i64 (IntKind.i64.wrap (count+1))),(79,.int .i64 (IntKind.i64.wrap (at_+1))),(82,.pointer (some ⟨g0,1,none⟩))] ?_
        refine st (Ss none 3 0 g0 1 (.int .i64 (IntKind.i64.wrap (at_+1))) H rfl rfl (of_decide_eq_true rfl) ?_)
        intro w202 H
        refine Sg 2 [.le 1,.bl 0,.le 0,.co [1,1,1,1,1]] [(0,.pointer (some ⟨g0,0,none⟩)),(1,.int .i64 base),(5,.int .i64 want.f_text.f_at),(6,.int .i64 (IntKind.i64.wrap ((IntKind.i64.wrap (n_ * base))+(manifest_digit peek)))),(7,.int .i64 (IntKind.i64.wrap (count+1)))] ?_
        refine Lq (nk182,(IntKind.i64.wrap (at_+1)),(IntKind.i64.wrap ((IntKind.i64.wrap (n_ * base))+(manifest_digit peek))),(IntKind.i64.wrap (count+1)),mk185) (Nat.lt_succ_self _) ⟨hnx182 _ (Option.some.inj hb_182).symm,H,(hsub183.trans hsub185)⟩
       ·rw [hb201]
        have p201:=of_decide_eq_false hb201
        refine Sg 13 [.op [1,1,1,1,0,0,0,1,0,1,1,1,1,1] 4,.bl 1,.le 1,.bl 0,.le 0,.co [1,1,1,1,1]] [(0,.pointer (some ⟨g0,0,none⟩)),(1,.int .i64 base),(5,.int .i64 want.f_text.f_at),(6,.int .i64 n_),(7,.int .i64 (IntKind.i64.wrap (count+1))),(74,.pointer (some ⟨g0,0,none⟩)),(77,.pointer (some ⟨g0,1,none⟩))] ?_
        refine st (Lr (some 78) 3 ⟨g0,1,none⟩ (.int .i64 at_) (H.cellB 0 rfl rfl) ?_)
        refine Sg 4 [.op [1,1,1,1,0,0,0,1,0,1,1,1,1,1] 9,.bl 1,.le 1,.bl 0,.le 0,.co [1,1,1,1,1]] [(0,.pointer (some ⟨g0,0,none⟩)),(1,.int .i64 base),(5,.int .i64 want.f_text.f_at),(6,.int .i64 n_),(7,.int .i64 (IntKind.i64.wrap (count+1))),(79,.int .i64 (IntKind.i64.wrap (at_+1))),(82,.pointer (some ⟨g0,1,none⟩))] ?_
        refine st (Ss none 3 0 g0 1 (.int .i64 (IntKind.i64.wrap (at_+1))) H rfl rfl (of_decide_eq_true rfl) ?_)
        intro w203 H
        refine Sg 2 [.le 1,.bl 0,.le 0,.co [1,1,1,1,1]] [(0,.pointer (some ⟨g0,0,none⟩)),(1,.int .i64 base),(5,.int .i64 want.f_text.f_at),(6,.int .i64 n_),(7,.int .i64 (IntKind.i64.wrap (count+1)))] ?_
        refine Lq (nk182,(IntKind.i64.wrap (at_+1)),n_,(IntKind.i64.wrap (count+1)),mk185) (Nat.lt_succ_self _) ⟨hnx182 _ (Option.some.inj hb_182).symm,H,(hsub183.trans hsub185)⟩
  ·rw [hb184]
   refine Sg 2 [.le 0,.co [1,1,1,1,1]] [(0,.pointer (some ⟨g0,0,none⟩)),(5,.int .i64 want.f_text.f_at),(6,.int .i64 n_),(7,.int .i64 count)] ?_
   refine leR_up (k':=[]) (by rfl) ?_
   refine Lj (at_,n_,count,mm183) ⟨(hfin182 _ (Option.some.inj hb_182).symm).symm,H,hsub183⟩
 rintro ⟨at_,n_,count,mm141⟩ wj140 ⟨hy140,H,hsub141⟩
 try dsimp only at hy140
 try dsimp only at H
 try dsimp only at hsub141
 have hf:=hfl140 _ hy140
 try dsimp only at hf
 refine Sg 8 [.co [1,1,1,1,1,0,0,1],.bl 2,.co [1,1,1,1,1,1]] [(0,.pointer (some ⟨g0,0,none⟩)),(5,.int .i64 want.f_text.f_at),(6,.int .i64 n_),(83,.bool (count == 0))] ?_
 rcases condT hf with ⟨hb214,hf⟩ | ⟨hb214,hf⟩
 ·rw [hb214]
  refine Sg 1 [.co [1,1,1,1,1,0,0,1,0],.bl 2,.co [1,1,1,1,1,1]] [(0,.pointer (some ⟨g0,0,none⟩)),(6,.int .i64 n_)] ?_
  obtain ⟨fail1,h_fail1,hf⟩:=bindE hf
  have hst:statB (bodyOf Tryd.f49) [1,1,1,1,1,0,0,1,0]=true:=by kernel_rfl
  refine Dw (Has mm141) H ?_
  intro w216 H
  refine Sk hst [0,1,2,3,4,5,6] [0,1,2,3,4,5,6] [(6,.int .i64 n_),(88,.pointer (some ⟨g0,0,none⟩)),(92,.pointer (some ⟨g0,1,none⟩))] ?_
  replace H:St w F m mm141 [blkI g0 [.slice A1_o0_0 want.f_text.f_b.length c1_o0_0,.int .i64 at_,.int .i64 want.f_text.f_e,.slice A0_3 r_.f_l.length c0_3,.bool want.f_full,.bool want.f_more] 56] w216:=H
  refine Sd (i:=7) H.has (Lr (some 93) 3 ⟨g0,1,none⟩ (.int .i64 at_) (H.cellB 0 rfl rfl) ?_)
  obtain ⟨F217,hse217,hFn217,hcl217⟩:=St.call [blkI g0 [.slice A1_o0_0 want.f_text.f_b.length c1_o0_0,.int .i64 at_,.int .i64 want.f_text.f_e,.slice A0_3 r_.f_l.length c0_3,.bool want.f_full,.bool want.f_more] 56] H
  refine Sd (i:=8) H.has (Cl (some 94) 39 #[.pointer (some ⟨g0,0,none⟩),.int .i64 6,.int .i64 at_] Tryd.call39 (manifest_text_fail_c H.has g0 ({ f_text:=({ f_b:=want.f_text.f_b,f_at:=at_,f_e:=want.f_text.f_e }:TManifestText),f_l:=r_.f_l,f_full:=want.f_full,f_more:=want.f_more }:TManifestReader) A1_o0_0 c1_o0_0 A0_3 c0_3 6 at_ hse217 hFn217 h_fail1) ?_)
  rintro _ w217 ⟨mk217,rfl,hS217⟩
  have hsub217:=hS217.sub
  replace H:=hcl217 _ _ _ hS217
  refine Ed (H.has.sub hsub217) ?_
  refine Sg 6 [.co [1,1,1,1,1,1,1]] [(4,.int .i64 n_)] ?_
  refine Rr [4] [.int .i64 n_] ?_
  obtain rfl:(n_,({ f_text:=({ f_b:=want.f_text.f_b,f_at:=fail1.f_text.f_at,f_e:=fail1.f_text.f_e }:TManifestText),f_l:=r_.f_l,f_full:=fail1.f_full,f_more:=fail1.f_more }:TManifestReader))=r:=(Option.some.inj hf)
  exact ⟨_,rfl,A1_o0_0,c1_o0_0,mk217,rfl,H,(hs1_0.mono (hsub141.trans hsub217))⟩
 ·rw [hb214]
  refine Sg 7 [.co [1,1,1,1,1,0,0,1,1,1],.bl 2,.co [1,1,1,1,1,1]] [(0,.pointer (some ⟨g0,0,none⟩)),(5,.int .i64 want.f_text.f_at),(6,.int .i64 n_),(95,.bool (decide (n_ > 1099511627776)))] ?_
  rcases condT hf with ⟨hb218,hf⟩ | ⟨hb218,hf⟩
  ·rw [hb218]
   have p218:=of_decide_eq_true hb218
   refine Sg 6 [.op [1,1,1,1,1,0,0,1,1,1,0] 4,.bl 2,.co [1,1,1,1,1,1]] [(6,.int .i64 n_),(100,.pointer (some ⟨g0,0,none⟩)),(101,.int .i64 want.f_text.f_at)] ?_
   obtain ⟨fail2,h_fail2,hf⟩:=bindE hf
   obtain ⟨F219,hse219,hFn219,hcl219⟩:=St.call [blkI g0 [.slice A1_o0_0 want.f_text.f_b.length c1_o0_0,.int .i64 at_,.int .i64 want.f_text.f_e,.slice A0_3 r_.f_l.length c0_3,.bool want.f_full,.bool want.f_more] 56] H
   refine st (Cl (some 102) 39 #[.pointer (some ⟨g0,0,none⟩),.int .i64 9,.int .i64 want.f_text.f_at] Tryd.call39 (manifest_text_fail_c H.has g0 ({ f_text:=({ f_b:=want.f_text.f_b,f_at:=at_,f_e:=want.f_text.f_e }:TManifestText),f_l:=r_.f_l,f_full:=want.f_full,f_more:=want.f_more }:TManifestReader) A1_o0_0 c1_o0_0 A0_3 c0_3 9 want.f_text.f_at hse219 hFn219 h_fail2) ?_)
   rintro _ w219 ⟨mk219,rfl,hS219⟩
   have hsub219:=hS219.sub
   replace H:=hcl219 _ _ _ hS219
   refine Sg 7 [.co [1,1,1,1,1,1,1]] [(4,.int .i64 n_)] ?_
   refine Rr [4] [.int .i64 n_] ?_
   obtain rfl:(n_,({ f_text:=({ f_b:=want.f_text.f_b,f_at:=fail2.f_text.f_at,f_e:=fail2.f_text.f_e }:TManifestText),f_l:=r_.f_l,f_full:=fail2.f_full,f_more:=fail2.f_more }:TManifestReader))=r:=(Option.some.inj hf)
   exact ⟨_,rfl,A1_o0_0,c1_o0_0,mk219,rfl,H,(hs1_0.mono (hsub141.trans hsub219))⟩
  ·rw [hb218]
   have p218:=of_decide_eq_false hb218
   refine Sg 8 [.co [1,1,1,1,1,1,1]] [(4,.int .i64 n_)] ?_
   refine Rr [4] [.int .i64 n_] ?_
   obtain rfl:(n_,({ f_text:=({ f_b:=want.f_text.f_b,f_at:=at_,f_e:=want.f_text.f_e }:TManifestText),f_l:=r_.f_l,f_full:=want.f_full,f_more:=want.f_more }:TManifestReader))=r:=(Option.some.inj hf)
   exact ⟨_,rfl,A1_o0_0,c1_o0_0,mm141,rfl,H,(hs1_0.mono hsub141)⟩
theorem manifest_reader_pair_c {m:Mem} {w:World} (hm:Has m w) (g0:Nat) (r_:TManifestReader) (A0_0:Option Addr) (c0_0:Nat) (s0_0:SlI rU8 m A0_0 c0_0 r_.f_text.f_b) (A0_3:Option Addr) (c0_3:Nat) {F:Nat → Prop} (hsep:Sep m w [blkI g0 [.slice A0_0 r_.f_text.f_b.length c0_0,.int .i64 r_.f_text.f_at,.int .i64 r_.f_text.f_e,.slice A0_3 r_.f_l.length c0_3,.bool r_.f_full,.bool r_.f_more] 56] F) (hF:∀ k,F k → m k=none) {r:(UInt8 × TManifestReader)} (hf:manifest_reader_pair r_=some r) :
  Calls Tryd.prog 38 #[.pointer (some ⟨g0,0,none⟩)] w fun e w' => ∃ v,e=.returned v ∧ ∃ Az_o0_0:Option Addr,∃ cz_o0_0:Nat,∃ m':Mem,v=.int .u8 (r.1.toNat:Int) ∧ St w F m m' [blkI g0 [.slice Az_o0_0 r.2.f_text.f_b.length cz_o0_0,.int .i64 r.2.f_text.f_at,.int .i64 r.2.f_text.f_e,.slice A0_3 r_.f_l.length c0_3,.bool r.2.f_full,.bool r.2.f_more] 56] w' ∧ SlI rU8 m' Az_o0_0 cz_o0_0 r.2.f_text.f_b:=by
 unfold manifest_reader_pair at hf
 have H:=St.start hm hsep hF
 refine Fc Tryd.func38 ?_
 refine Sg 6 [.op [1,0] 0,.co [1,1]] [(0,.pointer (some ⟨g0,0,none⟩))] ?_
 refine st (Nw (some 3) (fun g => .pointer (some ⟨g,0,none⟩)) [.int .i64 0,.int .i64 0] 78 H ?_)
 intro g1 w1 H
 replace H:=H.toArr 0 fI64 (List.replicate 2 (0:Int)) rfl (by kernel_rfl)
 refine Sg 6 [.co [1,1,0,1],.co [1,1,1]] [(0,.pointer (some ⟨g0,0,none⟩)),(3,.pointer (some ⟨g1,0,none⟩)),(5,.int .i64 0)] ?_
 obtain ⟨y95,hp95,hfl95,hfr95⟩:=bndE hf
 refine joinR 0 (fun (x:(List Int) × Int × Mem) => [(3,.pointer (some ⟨g1,0,none⟩))]) (fun (x:(List Int) × Int × Mem) (wj95:World) => y95=.inl (x.1,x.2.1) ∧ St w F m x.2.2 [blkI g1 (x.1.map fI64) 78,blkI g0 [.slice A0_0 r_.f_text.f_b.length c0_0,.int .i64 x.2.1,.int .i64 r_.f_text.f_e,.slice A0_3 r_.f_l.length c0_3,.bool r_.f_full,.bool r_.f_more] 56] wj95 ∧ Sub m x.2.2) (by kernel_rfl) ?_ ?_
 ·refine Sg 1 [.co [1,1,0,1,0],.bl 0,.le 0,.co [1,1,1]] [(0,.pointer (some ⟨g0,0,none⟩)),(3,.pointer (some ⟨g1,0,none⟩)),(5,.int .i64 0)] ?_
  obtain ⟨nn118,hR118⟩:=loopO_iff.1 hp95
  refine Lp 1 (fun (x:Nat × Int × (List Int) × Nat × Mem) => [(0,.pointer (some ⟨g0,0,none⟩)),(3,.pointer (some ⟨g1,0,none⟩)),(5,.int .i64 (x.2.2.2.1:Int))]) (fun (x:Nat × Int × (List Int) × Nat × Mem) (wl118:World) => iter (fun s => manifest_reader_pair_l1 r_ s.1 s.2.1 s.2.2) x.1 (x.2.1,x.2.2.1,x.2.2.2.1)=some y95 ∧ St w F m x.2.2.2.2 [blkI g0 [.slice A0_0 r_.f_text.f_b.length c0_0,.int .i64 x.2.1,.int .i64 r_.f_text.f_e,.slice A0_3 r_.f_l.length c0_3,.bool r_.f_full,.bool r_.f_more] 56,blkI g1 (x.2.2.1.map fI64) 78] wl118 ∧ Sub m x.2.2.2.2) (fun (x:Nat × Int × (List Int) × Nat × Mem) => x.1) (nn118,r_.f_text.f_at,(List.replicate 2 (0:Int)),0,m) ?_ ?_
  ·exact ⟨hR118,(H.pull 1 rfl),(Sub.refl _)⟩
  rintro ⟨n118,at_,x_,t,mm119⟩ wl118 ⟨hR118,H,hsub119⟩
  try dsimp only at hR118
  try dsimp only at H
  try dsimp only at hsub119
  obtain ⟨nk118,q118,rfl,hb_118,hnx118,hfin118⟩:=iterE hR118
  replace hb_118:manifest_reader_pair_l1 r_ at_ x_ t=some q118:=hb_118
  unfold manifest_reader_pair_l1 at hb_118
  refine Sg 5 [.co [1,1,0,1,0,0,1,0],.co [1,1,0,1,0,0,1,1],.le 1,.bl 0,.le 0,.co [1,1,1]] [(0,.pointer (some ⟨g0,0,none⟩)),(3,.pointer (some ⟨g1,0,none⟩)),(5,.int .i64 (t:Int)),(6,.bool (decide ((t:Int) < 2)))] ?_
  rcases condT hb_118 with ⟨hb120,hb_118⟩ | ⟨hb120,hb_118⟩
  ·rw [hb120]
   have p120:=of_decide_eq_true hb120
   refine Sg 15 [.op [1,1,0,1,0,0,1,1,0,0,1,0] 4,.co [1,1,0,1,0,0,1,1,0,0,1,1],.bl 1,.co [1,1,0,1,0,0,1,1,1],.le 1,.bl 0,.le 0,.co [1,1,1]] [(0,.pointer (some ⟨g0,0,none⟩)),(3,.pointer (some ⟨g1,0,none⟩)),(4,.int .i64 (t:Int)),(5,.int .i64 (t:Int)),(8,.int .i64 (t:Int)),(11,.pointer (some ⟨g0,0,none⟩))] ?_
   replace H:St w F m mm119 [blkI g0 [.slice A0_0 r_.f_text.f_b.length c0_0,.int .i64 at_,.int .i64 r_.f_text.f_e,.slice A0_3 r_.f_l.length c0_3,.bool r_.f_full,.bool r_.f_more] 56,blkI g1 (x_.map fI64) 78] wl118:=H
   obtain ⟨peek,h_peek,hb_118⟩:=bindE hb_118
   obtain ⟨F121,hse121,hFn121,hcl121⟩:=St.call [blkI g0 [.slice A0_0 r_.f_text.f_b.length c0_0,.int .i64 at_,.int .i64 r_.f_text.f_e,.slice A0_3 r_.f_l.length c0_3,.bool r_.f_full,.bool r_.f_more] 56] H
   refine st (Cl (some 12) 37 #[.pointer (some ⟨g0,0,none⟩)] Tryd.call37 (manifest_text_peek_c H.has g0 ({ f_text:=({ f_b:=r_.f_text.f_b,f_at:=at_,f_e:=r_.f_text.f_e }:TManifestText),f_l:=r_.f_l,f_full:=r_.f_full,f_more:=r_.f_more }:TManifestReader) A0_0 c0_0 (s0_0.mono hsub119) A0_3 c0_3 hse121 hFn121 h_peek) ?_)
   rintro _ w121 ⟨mk121,rfl,hS121⟩
   have hsub121:=hS121.sub
   replace H:=hcl121 _ _ _ hS121
   refine st (Cl (some 13) 47 #[.int .u8 (peek.toNat:Int)] Tryd.call47 (manifest_digit_c H.has peek) ?_)
   rintro _ w122 ⟨rfl,hx122⟩
   replace H:=H.ex hx122
   obtain ⟨x_1,h_x_1,hb_118⟩:=bindE hb_118
   obtain ⟨hc123,hb_118⟩:=chkE hb_118
   obtain ⟨i0124,i1124,ix124⟩:=idx_some h_x_1
   refine st (idxAS (some 14) 78 2 3 g1 .i64 (t:Int) (by kernel_rfl) (by kernel_rfl) i0124 (of_decide_eq_true hc123) ?_)
   refine st (stAS fI64 none 3 1 g1 ((t:Int).toNat) (manifest_digit peek) x_ 78 H rfl (by kernel_rfl) (by kernel_rfl) rfl (List.getElem?_eq_some_iff.1 ix124).1 ?_)
   intro w125 H
   refine Sg 5 [.op [1,1,0,1,0,0,1,1,0,0,1,1,0,0] 1,.co [1,1,0,1,0,0,1,1,0,0,1,1,0,1],.co [1,1,0,1,0,0,1,1,0,0,1,1,1],.bl 1,.co [1,1,0,1,0,0,1,1,1],.le 1,.bl 0,.le 0,.co [1,1,1]] [(0,.pointer (some ⟨g0,0,none⟩)),(3,.pointer (some ⟨g1,0,none⟩)),(5,.int .i64 (t:Int)),(15,.int .i64 (t:Int))] ?_
   obtain ⟨x_2,h_x_2,hb_118⟩:=bindE hb_118
   obtain ⟨hc126,hb_118⟩:=chkE hb_118
   obtain ⟨i0127,i1127,ix127⟩:=idx_some h_x_2
   refine st (idxAS (some 16) 78 2 3 g1 .i64 (t:Int) (by kernel_rfl) (by kernel_rfl) i0127 (of_decide_eq_true hc126) ?_)
   refine st (Lr (some 17) 3 (⟨g1,(t:Int).toNat,none⟩) (.int .i64 x_2) (H.cellA 1 rfl ix127) ?_)
   refine Sg 2 [.co [1,1,0,1,0,0,1,1,0,0,1,1,0,1],.co [1,1,0,1,0,0,1,1,0,0,1,1,1],.bl 1,.co [1,1,0,1,0,0,1,1,1],.le 1,.bl 0,.le 0,.co [1,1,1]] [(0,.pointer (some ⟨g0,0,none⟩)),(3,.pointer (some ⟨g1,0,none⟩)),(5,.int .i64 (t:Int)),(18,.bool (decide (x_2 < 0)))] ?_
   rcases condT hb_118 with ⟨hb128,hb_118⟩ | ⟨hb128,hb_118⟩
   ·rw [hb128]
    have p128:=of_decide_eq_true hb128
    refine Sg 2 [.co [1,1,0,1,0,0,1,1,0,0,1,1,0,1,0,0],.co [1,1,0,1,0,0,1,1,0,0,1,1,0,1,0,1],.co [1,1,0,1,0,0,1,1,0,0,1,1,1],.bl 1,.co [1,1,0,1,0,0,1,1,1],.le 1,.bl 0,.le 0,.co [1,1,1]] [(0,.pointer (some ⟨g0,0,none⟩))] ?_
    obtain ⟨fail,h_fail,hb_118⟩:=bindE hb_118
    have hst:statB (bodyOf Tryd.f38) [1,1,0,1,0,0,1,1,0,0,1,1,0,1,0,0]=true:=by kernel_rfl
    refine Dw (Has mk121) H ?_
    intro w130 H
    refine Sk hst [0,1,2,3,4,5,6] [0,1,2,3,4,5,6] [(21,.pointer (some ⟨g0,0,none⟩)),(25,.pointer (some ⟨g0,1,none⟩))] ?_
    replace H:St w F m mk121 [blkI g0 [.slice A0_0 r_.f_text.f_b.length c0_0,.int .i64 at_,.int .i64 r_.f_text.f_e,.slice A0_3 r_.f_l.length c0_3,.bool r_.f_full,.bool r_.f_more] 56] w130:=(H.drop 1 rfl)
    refine Sd (i:=7) H.has (Lr (some 26) 3 ⟨g0,1,none⟩ (.int .i64 at_) (H.cellB 0 rfl rfl) ?_)
    obtain ⟨F131,hse131,hFn131,hcl131⟩:=St.call [blkI g0 [.slice A0_0 r_.f_text.f_b.length c0_0,.int .i64 at_,.int .i64 r_.f_text.f_e,.slice A0_3 r_.f_l.length c0_3,.bool r_.f_full,.bool r_.f_more] 56] H
    refine Sd (i:=8) H.has (Cl (some 27) 39 #[.pointer (some ⟨g0,0,none⟩),.int .i64 6,.int .i64 at_] Tryd.call39 (manifest_text_fail_c H.has g0 ({ f_text:=({ f_b:=r_.f_text.f_b,f_at:=at_,f_e:=r_.f_text.f_e }:TManifestText),f_l:=r_.f_l,f_full:=r_.f_full,f_more:=r_.f_more }:TManifestReader) A0_0 c0_0 A0_3 c0_3 6 at_ hse131 hFn131 h_fail) ?_)
    rintro _ w131 ⟨mk131,rfl,hS131⟩
    have hsub131:=hS131.sub
    replace H:=hcl131 _ _ _ hS131
    refine Ed (H.has.sub hsub131) ?_
    refine Sg 4 [.co [1,1,0,1,0,0,1,1,0,0,1,1,0,1,0,1,1],.co [1,1,0,1,0,0,1,1,0,0,1,1,1],.bl 1,.co [1,1,0,1,0,0,1,1,1],.le 1,.bl 0,.le 0,.co [1,1,1]] [(2,.int .u8 0)] ?_
    refine Rr [2] [.int .u8 0] ?_
    obtain rfl:((0:UInt8),({ f_text:=({ f_b:=r_.f_text.f_b,f_at:=fail.f_text.f_at,f_e:=fail.f_text.f_e }:TManifestText),f_l:=r_.f_l,f_full:=fail.f_full,f_more:=fail.f_more }:TManifestReader))=r:=(hfr95 _ (hfin118 _ (Option.some.inj hb_118).symm).symm)
    exact ⟨_,rfl,A0_0,c0_0,mk131,rfl,H,(s0_0.mono ((hsub119.trans hsub121).trans hsub131))⟩
   ·rw [hb128]
    have p128:=of_decide_eq_false hb128
    refine Sg 7 [.op [1,1,0,1,0,0,1,1,0,0,1,1,1] 4,.bl 1,.co [1,1,0,1,0,0,1,1,1],.le 1,.bl 0,.le 0,.co [1,1,1]] [(0,.pointer (some ⟨g0,0,none⟩)),(3,.pointer (some ⟨g1,0,none⟩)),(5,.int .i64 (t:Int)),(28,.pointer (some ⟨g0,0,none⟩)),(31,.pointer (some ⟨g0,1,none⟩))] ?_
    refine st (Lr (some 32) 3 ⟨g0,1,none⟩ (.int .i64 at_) (H.cellB 0 rfl rfl) ?_)
    refine Sg 4 [.op [1,1,0,1,0,0,1,1,0,0,1,1,1] 9,.bl 1,.co [1,1,0,1,0,0,1,1,1],.le 1,.bl 0,.le 0,.co [1,1,1]] [(0,.pointer (some ⟨g0,0,none⟩)),(3,.pointer (some ⟨g1,0,none⟩)),(5,.int .i64 (t:Int)),(33,.int .i64 (IntKind.i64.wrap (at_+1))),(36,.pointer (some ⟨g0,1,none⟩))] ?_
    refine st (Ss none 3 0 g0 1 (.int .i64 (IntKind.i64.wrap (at_+1))) H rfl rfl (of_decide_eq_true rfl) ?_)
    intro w132 H
    refine Sg 6 [.le 1,.bl 0,.le 0,.co [1,1,1]] [(0,.pointer (some ⟨g0,0,none⟩)),(3,.pointer (some ⟨g1,0,none⟩)),(5,.int .i64 (IntKind.i64.wrap ((t:Int)+1)))] ?_
    rw [show IntKind.i64.wrap ((t:Int)+1)=((t:Int)+1) from w64 (by omega)]
    refine Lq (nk118,(IntKind.i64.wrap (at_+1)),(x_.set ((t:Int).toNat) (manifest_digit peek)),(t+1),mk121) (Nat.lt_succ_self _) ⟨hnx118 _ (Option.some.inj hb_118).symm,H,(hsub119.trans hsub121)⟩
  ·rw [hb120]
   have p120:=of_decide_eq_false hb120
   refine Sg 2 [.le 0,.co [1,1,1]] [(3,.pointer (some ⟨g1,0,none⟩))] ?_
   refine leR_up (k':=[]) (by rfl) ?_
   refine Lj (x_,at_,mm119) ⟨(hfin118 _ (Option.some.inj hb_118).symm).symm,(H.pull 1 rfl),hsub119⟩
 rintro ⟨x_,at_,mm96⟩ wj95 ⟨hy95,H,hsub96⟩
 try dsimp only at hy95
 try dsimp only at H
 try dsimp only at hsub96
 have hf:=hfl95 _ hy95
 try dsimp only at hf
 refine Sg 2 [.op [1,1,1,0] 0,.co [1,1,1,1]] [(3,.pointer (some ⟨g1,0,none⟩))] ?_
 obtain ⟨x_3,h_x_3,hf⟩:=bindE hf
 obtain ⟨i0133,i1133,ix133⟩:=idx_some h_x_3
 refine st (idxAS (some 38) 78 2 3 g1 .i64 0 (by kernel_rfl) (by kernel_rfl) i0133 (by decide) ?_)
 refine st (Lr (some 39) 3 (⟨g1,(0:Int).toNat,none⟩) (.int .i64 x_3) (H.cellA 0 rfl ix133) ?_)
 refine st (runR (by kernel_rfl:fetch _ _ _ _ _=some ((some 40),vS (Op.shift .shl .i64 x_3 .u64 4))) (shlI_run _ _ (by decide)) ?_)
 obtain ⟨x_4,h_x_4,hf⟩:=bindE hf
 obtain ⟨i0134,i1134,ix134⟩:=idx_some h_x_4
 refine st (idxAS (some 41) 78 2 3 g1 .i64 1 (by kernel_rfl) (by kernel_rfl) i0134 (by decide) ?_)
 refine st (Lr (some 42) 3 (⟨g1,(1:Int).toNat,none⟩) (.int .i64 x_4) (H.cellA 0 rfl ix134) ?_)
 refine Sg 4 [.co [1,1,1,1]] [(2,.int .u8 (IntKind.u8.wrap (Go.bits .or .i64 (shlI x_3 4) x_4)))] ?_
 rw [q8_wrap (Go.bits .or .i64 (shlI x_3 4) x_4)]
 refine Rr [2] [.int .u8 ((UInt8.ofInt (Go.bits .or .i64 (shlI x_3 4) x_4)).toNat:Int)] ?_
 obtain rfl:((UInt8.ofInt (Go.bits .or .i64 (shlI x_3 4) x_4)),({ f_text:=({ f_b:=r_.f_text.f_b,f_at:=at_,f_e:=r_.f_text.f_e }:TManifestText),f_l:=r_.f_l,f_full:=r_.f_full,f_more:=r_.f_more }:TManifestReader))=r:=(Option.some.inj hf)
 exact ⟨_,rfl,A0_0,c0_0,mm96,rfl,(St.takeN 1 (H.pull 1 rfl)),(s0_0.mono hsub96)⟩
end Go.Proofs.YtebbaokcgnjfiaaDoor.F
