import Derived.Test.YtebbaokcgnjfiaaDoorProg
import Derived.Test.YtebbaokcgnjfiaaDoorLBP
import Derived.Test.YtebbaokcgnjfiaaDoorLB4
set_option linter.unusedVariables false
set_option linter.unusedSimpArgs false
namespace Go.Proofs.YtebbaokcgnjfiaaDoor.F
open Go Go.RowKit Go.Proofs.YtebbaokcgnjfiaaDoor Go.Proofs.YtebbaokcgnjfiaaDoor.K
set_option maxRecDepth 100000
theorem manifest_reader_attr_c {m:Mem} {w:World} (hm:Has m w) (g0:Nat) (r_:TManifestReader) (A0_0:Option Addr) (c0_0:Nat) (s0_0:SlI rU8 m A0_0 c0_0 r_.f_text.f_b) (A0_3:Option Addr) (c0_3:Nat) {F:Nat → Prop} (hsep:Sep m w [blkI g0 [.slice A0_0 r_.f_text.f_b.length c0_0,.int .i64 r_.f_text.f_at,.int .i64 r_.f_text.f_e,.slice A0_3 r_.f_l.length c0_3,.bool r_.f_full,.bool r_.f_more] 56,rowO oApiEntry 44 A0_3 c0_3 r_.f_l] F) (hF:∀ k,F k → m k=none) {r:TManifestReader} (hf:manifest_reader_attr r_=some r) :
  Calls Tryd.prog 44 #[.pointer (some ⟨g0,0,none⟩)] w fun e w' => ∃ v,e=.returned v ∧ ∃ Az_o0_0:Option Addr,∃ cz_o0_0:Nat,∃ Az_o0_3:Option Addr,∃ cz_o0_3:Nat,∃ m':Mem,v=.tuple #[] ∧ St w F m m' [blkI g0 [.slice Az_o0_0 r.f_text.f_b.length cz_o0_0,.int .i64 r.f_text.f_at,.int .i64 r.f_text.f_e,.slice Az_o0_3 r.f_l.length cz_o0_3,.bool r.f_full,.bool r.f_more] 56,rowO oApiEntry 44 Az_o0_3 cz_o0_3 r.f_l] w' ∧ SlI rU8 m' Az_o0_0 cz_o0_0 r.f_text.f_b:=by
 unfold manifest_reader_attr at hf
 have H:=St.start hm hsep hF
 refine Fc Tryd.func44 ?_
 refine Sg 6 [.op [0] 4,.co [1]] [(0,.pointer (some ⟨g0,0,none⟩)),(5,.pointer (some ⟨g0,0,none⟩)),(8,.pointer (some ⟨g0,1,none⟩))] ?_
 refine st (Lr (some 9) 3 ⟨g0,1,none⟩ (.int .i64 r_.f_text.f_at) (H.cellB 0 rfl rfl) ?_)
 refine Sg 4 [.op [0] 9,.co [1]] [(0,.pointer (some ⟨g0,0,none⟩)),(10,.int .i64 (IntKind.i64.wrap (r_.f_text.f_at+1))),(13,.pointer (some ⟨g0,1,none⟩))] ?_
 refine st (Ss none 3 0 g0 1 (.int .i64 (IntKind.i64.wrap (r_.f_text.f_at+1))) H rfl rfl (of_decide_eq_true rfl) ?_)
 intro w1 H
 refine Sg 6 [.op [1,0] 3,.co [1,1]] [(0,.pointer (some ⟨g0,0,none⟩)),(16,.pointer (some ⟨g0,0,none⟩))] ?_
 obtain ⟨want,h_want,hf⟩:=bindE hf
 obtain ⟨F2,hse2,hFn2,hcl2⟩:=St.call [blkI g0 [.slice A0_0 r_.f_text.f_b.length c0_0,.int .i64 (IntKind.i64.wrap (r_.f_text.f_at+1)),.int .i64 r_.f_text.f_e,.slice A0_3 r_.f_l.length c0_3,.bool r_.f_full,.bool r_.f_more] 56] H
 refine st (Cl (some 17) 50 #[.pointer (some ⟨g0,0,none⟩),.int .u8 32] Tryd.call50 (manifest_text_want_c H.has g0 ({ f_text:=({ f_b:=r_.f_text.f_b,f_at:=(IntKind.i64.wrap (r_.f_text.f_at+1)),f_e:=r_.f_text.f_e }:TManifestText),f_l:=r_.f_l,f_full:=r_.f_full,f_more:=r_.f_more }:TManifestReader) A0_0 c0_0 s0_0 A0_3 c0_3 (32:UInt8) hse2 hFn2 h_want) ?_)
 rintro _ w2 ⟨A2_o0_0,c2_o0_0,mk2,rfl,hS2,hs2_0⟩
 have hsub2:=hS2.sub
 replace H:=hcl2 _ _ _ hS2
 refine Sg 4 [.op [1,1,0] 1,.co [1,1,1]] [(0,.pointer (some ⟨g0,0,none⟩)),(18,.pointer (some ⟨g0,0,none⟩))] ?_
 obtain ⟨word_,h_word_,hf⟩:=bindE hf
 obtain ⟨F3,hse3,hFn3,hcl3⟩:=St.call [blkI g0 [.slice A2_o0_0 want.f_text.f_b.length c2_o0_0,.int .i64 want.f_text.f_at,.int .i64 want.f_text.f_e,.slice A0_3 r_.f_l.length c0_3,.bool want.f_full,.bool want.f_more] 56] H
 refine st (Cl (some 19) 24 #[.pointer (some ⟨g0,0,none⟩)] Tryd.call24 (manifest_reader_word_c H.has g0 ({ f_text:=want.f_text,f_l:=r_.f_l,f_full:=want.f_full,f_more:=want.f_more }:TManifestReader) A2_o0_0 c2_o0_0 hs2_0 A0_3 c0_3 hse3 hFn3 h_word_) ?_)
 rintro _ w3 ⟨A3_o0_0,c3_o0_0,mk3,rfl,hS3,hs3_0,hl3_0⟩
 have hsub3:=hS3.sub
 replace H:=hcl3 _ _ _ hS3
 refine Sg 1 [.op [1,1,0] 3,.co [1,1,1]] [(0,.pointer (some ⟨g0,0,none⟩)),(20,.agg #[.string ⟨word_.1.toArray⟩,.slice none 0 0])] ?_
 refine st (Nw (some 2) (fun g => .pointer (some ⟨g,0,none⟩)) [.string ⟨([]:List UInt8).toArray⟩,.slice none 0 0] 46 H ?_)
 intro g4 w4 H
 replace H:St w F m mk3 [blkI g4 [.string ⟨([]:List UInt8).toArray⟩,.slice none 0 0] 46,blkI g0 [.slice A3_o0_0 word_.2.f_text.f_b.length c3_o0_0,.int .i64 word_.2.f_text.f_at,.int .i64 word_.2.f_text.f_e,.slice A0_3 r_.f_l.length c0_3,.bool word_.2.f_full,.bool word_.2.f_more] 56,rowO oApiEntry 44 A0_3 c0_3 r_.f_l] w4:=H
 refine st (Sa none 46 0 g4 0 [.string ⟨word_.1.toArray⟩,.slice none 0 0] [.string ⟨word_.1.toArray⟩,.slice none 0 0] H rfl (by rfl) (of_decide_eq_true rfl) rfl ?_)
 intro w5 H
 refine Sg 7 [.op [1,1,1,0,0] 3,.co [1,1,1,0,1],.co [1,1,1,1]] [(0,.pointer (some ⟨g0,0,none⟩)),(2,.pointer (some ⟨g4,0,none⟩)),(23,.pointer (some ⟨g0,0,none⟩))] ?_
 obtain ⟨peek,h_peek,hf⟩:=bindE hf
 obtain ⟨F6,hse6,hFn6,hcl6⟩:=St.call [blkI g0 [.slice A3_o0_0 word_.2.f_text.f_b.length c3_o0_0,.int .i64 word_.2.f_text.f_at,.int .i64 word_.2.f_text.f_e,.slice A0_3 r_.f_l.length c0_3,.bool word_.2.f_full,.bool word_.2.f_more] 56] (H.pull 1 rfl)
 refine st (Cl (some 24) 37 #[.pointer (some ⟨g0,0,none⟩)] Tryd.call37 (manifest_text_peek_c H.has g0 ({ f_text:=word_.2.f_text,f_l:=r_.f_l,f_full:=word_.2.f_full,f_more:=word_.2.f_more }:TManifestReader) A3_o0_0 c3_o0_0 hs3_0 A0_3 c0_3 hse6 hFn6 h_peek) ?_)
 rintro _ w6 ⟨mk6,rfl,hS6⟩
 have hsub6:=hS6.sub
 replace H:=hcl6 _ _ _ hS6
 refine Sg 2 [.co [1,1,1,0,1],.co [1,1,1,1]] [(0,.pointer (some ⟨g0,0,none⟩)),(2,.pointer (some ⟨g4,0,none⟩)),(25,.bool ((peek.toNat:Int) == 32))] ?_
 rcases condT hf with ⟨hb106,hf⟩ | ⟨hb106,hf⟩
 ·rw [hb106]
  refine Sg 7 [.op [1,1,1,0,1,0,0] 4,.co [1,1,1,0,1,0,1],.co [1,1,1,1]] [(0,.pointer (some ⟨g0,0,none⟩)),(2,.pointer (some ⟨g4,0,none⟩)),(26,.pointer (some ⟨g0,0,none⟩)),(29,.pointer (some ⟨g0,1,none⟩))] ?_
  refine st (Lr (some 30) 3 ⟨g0,1,none⟩ (.int .i64 word_.2.f_text.f_at) (H.cellB 0 rfl rfl) ?_)
  refine Sg 4 [.op [1,1,1,0,1,0,0] 9,.co [1,1,1,0,1,0,1],.co [1,1,1,1]] [(0,.pointer (some ⟨g0,0,none⟩)),(2,.pointer (some ⟨g4,0,none⟩)),(31,.int .i64 (IntKind.i64.wrap (word_.2.f_text.f_at+1))),(34,.pointer (some ⟨g0,1,none⟩))] ?_
  refine st (Ss none 3 0 g0 1 (.int .i64 (IntKind.i64.wrap (word_.2.f_text.f_at+1))) H rfl rfl (of_decide_eq_true rfl) ?_)
  intro w107 H
  refine Sg 5 [.co [1,1,1,0,1,0,1,1],.co [1,1,1,1]] [(0,.pointer (some ⟨g0,0,none⟩)),(2,.pointer (some ⟨g4,0,none⟩)),(3,.bool true)] ?_
  obtain ⟨y140,hp140,hf⟩:=bindE hf
  refine joinR 0 (fun (x:(List UInt8) × Int × Int × Bool × Bool × (List UInt8) × Option Addr × Nat × Option Addr × Nat × Mem) => [(0,.pointer (some ⟨g0,0,none⟩)),(2,.pointer (some ⟨g4,0,none⟩))]) (fun (x:(List UInt8) × Int × Int × Bool × Bool × (List UInt8) × Option Addr × Nat × Option Addr × Nat × Mem) (wj140:World) => y140=(x.1,x.2.1,x.2.2.1,x.2.2.2.1,x.2.2.2.2.1,x.2.2.2.2.2.1) ∧ St w F m x.2.2.2.2.2.2.2.2.2.2 [blkI g0 [.slice (x.2.2.2.2.2.2.1) x.1.length (x.2.2.2.2.2.2.2.1),.int .i64 x.2.1,.int .i64 x.2.2.1,.slice A0_3 r_.f_l.length c0_3,.bool x.2.2.2.1,.bool x.2.2.2.2.1] 56,rowO oApiEntry 44 A0_3 c0_3 r_.f_l,blkI g4 [.string ⟨word_.1.toArray⟩,.slice (x.2.2.2.2.2.2.2.2.1) x.2.2.2.2.2.1.length (x.2.2.2.2.2.2.2.2.2.1)] 46,rowI rU8 5 (x.2.2.2.2.2.2.2.2.1) (x.2.2.2.2.2.2.2.2.2.1) x.2.2.2.2.2.1] wj140 ∧ Sub mk6 x.2.2.2.2.2.2.2.2.2.2 ∧ SlI rU8 x.2.2.2.2.2.2.2.2.2.2 x.2.2.2.2.2.2.1 x.2.2.2.2.2.2.2.1 x.1) (by kernel_rfl) ?_ ?_
  ·refine Sg 1 [.co [1,1,1,0,1,0,1,1,0],.bl 0,.le 0,.co [1,1,1,1]] [(0,.pointer (some ⟨g0,0,none⟩)),(2,.pointer (some ⟨g4,0,none⟩)),(3,.bool true)] ?_
   have H:=H.nilR rU8 5
   obtain ⟨nn161,hR161⟩:=loopO_iff.1 hp140
   refine Lp 1 (fun (x:Nat × (List UInt8) × Int × Int × Bool × Bool × (List UInt8) × Bool × Option Addr × Nat × Option Addr × Nat × Mem) => [(0,.pointer (some ⟨g0,0,none⟩)),(2,.pointer (some ⟨g4,0,none⟩)),(3,.bool x.2.2.2.2.2.2.2.1)]) (fun (x:Nat × (List UInt8) × Int × Int × Bool × Bool × (List UInt8) × Bool × Option Addr × Nat × Option Addr × Nat × Mem) (wl161:World) => iter (fun s => manifest_reader_attr_l1 r_ s.1 s.2.1 s.2.2.1 s.2.2.2.1 s.2.2.2.2.1 s.2.2.2.2.2.1 s.2.2.2.2.2.2) x.1 (x.2.1,x.2.2.1,x.2.2.2.1,x.2.2.2.2.1,x.2.2.2.2.2.1,x.2.2.2.2.2.2.1,x.2.2.2.2.2.2.2.1)=some y140 ∧ St w F m x.2.2.2.2.2.2.2.2.2.2.2.2 [blkI g0 [.slice (x.2.2.2.2.2.2.2.2.1) x.2.1.length (x.2.2.2.2.2.2.2.2.2.1),.int .i64 x.2.2.1,.int .i64 x.2.2.2.1,.slice A0_3 r_.f_l.length c0_3,.bool x.2.2.2.2.1,.bool x.2.2.2.2.2.1] 56,rowO oApiEntry 44 A0_3 c0_3 r_.f_l,blkI g4 [.string ⟨word_.1.toArray⟩,.slice (x.2.2.2.2.2.2.2.2.2.2.1) x.2.2.2.2.2.2.1.length (x.2.2.2.2.2.2.2.2.2.2.2.1)] 46,rowI rU8 5 (x.2.2.2.2.2.2.2.2.2.2.1) (x.2.2.2.2.2.2.2.2.2.2.2.1) x.2.2.2.2.2.2.1] wl161 ∧ Sub mk6 x.2.2.2.2.2.2.2.2.2.2.2.2 ∧ SlI rU8 x.2.2.2.2.2.2.2.2.2.2.2.2 x.2.2.2.2.2.2.2.2.1 x.2.2.2.2.2.2.2.2.2.1 x.2.1) (fun (x:Nat × (List UInt8) × Int × Int × Bool × Bool × (List UInt8) × Bool × Option Addr × Nat × Option Addr × Nat × Mem) => x.1) (nn161,word_.2.f_text.f_b,(IntKind.i64.wrap (word_.2.f_text.f_at+1)),word_.2.f_text.f_e,word_.2.f_full,word_.2.f_more,[],true,A3_o0_0,c3_o0_0,none,0,mk6) ?_ ?_
   ·exact ⟨hR161,(((H.pull 2 rfl).pull 3 rfl).pull 3 rfl),(Sub.refl _),(hs3_0.mono hsub6)⟩
   rintro ⟨n161,b,at_,e_,full,more,Value,first,A_1_162,c_2_162,A_3_162,c_4_162,mm162⟩ wl161 ⟨hR161,H,hsub162,hs162_0⟩
   try dsimp only at hR161
   try dsimp only at H
   try dsimp only at hsub162
   try dsimp only at hs162_0
   obtain ⟨nk161,q161,rfl,hb_161,hnx161,hfin161⟩:=iterE hR161
   replace hb_161:manifest_reader_attr_l1 r_ b at_ e_ full more Value first=some q161:=hb_161
   unfold manifest_reader_attr_l1 at hb_161
   refine Sg 7 [.op [1,1,1,0,1,0,1,1,0,0,0,0] 4,.co [1,1,1,0,1,0,1,1,0,0,0,1],.co [1,1,1,0,1,0,1,1,0,0,1],.le 1,.bl 0,.le 0,.co [1,1,1,1]] [(0,.pointer (some ⟨g0,0,none⟩)),(2,.pointer (some ⟨g4,0,none⟩)),(3,.bool first),(38,.pointer (some ⟨g0,2,none⟩))] ?_
   replace H:St w F m mm162 [blkI g0 [.slice A_1_162 b.length c_2_162,.int .i64 at_,.int .i64 e_,.slice A0_3 r_.f_l.length c0_3,.bool full,.bool more] 56,rowO oApiEntry 44 A0_3 c0_3 r_.f_l,blkI g4 [.string ⟨word_.1.toArray⟩,.slice A_3_162 Value.length c_4_162] 46,rowI rU8 5 A_3_162 c_4_162 Value] wl161:=H
   refine st (Lr (some 39) 26 ⟨g0,2,none⟩ (.int .i64 e_) (H.cellB 0 rfl rfl) ?_)
   refine Sg 2 [.op [1,1,1,0,1,0,1,1,0,0,0,0] 7,.co [1,1,1,0,1,0,1,1,0,0,0,1],.co [1,1,1,0,1,0,1,1,0,0,1],.le 1,.bl 0,.le 0,.co [1,1,1,1]] [(0,.pointer (some ⟨g0,0,none⟩)),(2,.pointer (some ⟨g4,0,none⟩)),(3,.bool first),(41,.bool (e_ == 0))] ?_
   rcases condT hb_161 with ⟨hb163,hb_161⟩ | ⟨hb163,hb_161⟩
   ·rw [hb163]
    refine Sg 2 [.op [1,1,1,0,1,0,1,1,0,0,0,0] 9,.co [1,1,1,0,1,0,1,1,0,0,0,1],.co [1,1,1,0,1,0,1,1,0,0,1],.le 1,.bl 0,.le 0,.co [1,1,1,1]] [(0,.pointer (some ⟨g0,0,none⟩)),(2,.pointer (some ⟨g4,0,none⟩)),(41,.bool true),(43,.bool first)] ?_
    rcases condT hb_161 with ⟨hb164,hb_161⟩ | ⟨hb164,hb_161⟩
    ·rw [hb164]
     refine Sg 12 [.co [1,1,1,0,1,0,1,1,0,0,1,0,0],.bl 1,.co [1,1,1,0,1,0,1,1,0,0,1,1],.le 1,.bl 0,.le 0,.co [1,1,1,1]] [(0,.pointer (some ⟨g0,0,none⟩)),(2,.pointer (some ⟨g4,0,none⟩))] ?_
     obtain ⟨pair,h_pair,hb_161⟩:=bindE hb_161
     obtain ⟨b1,h_b1,hb_161⟩:=bindE hb_161
     have hst:statB (bodyOf Tryd.f44) [1,1,1,0,1,0,1,1,0,0,1,0,0]=true:=by kernel_rfl
     refine Dw (Has mm162) H ?_
     intro w169 H
     refine Sk hst [0,2] [0,2] [(0,.pointer (some ⟨g0,0,none⟩)),(2,.pointer (some ⟨g4,0,none⟩)),(51,.pointer (some ⟨g4,1,none⟩)),(53,.pointer (some ⟨g0,0,none⟩))] ?_
     refine allD2 [1,3] (by kernel_rfl) H.has ⟨?_,?_,trivial⟩
     ·replace H:St w F m mm162 [blkI g0 [.slice A_1_162 b.length c_2_162,.int .i64 at_,.int .i64 e_,.slice A0_3 r_.f_l.length c0_3,.bool full,.bool more] 56,rowO oApiEntry 44 A0_3 c0_3 r_.f_l,blkI g4 [.string ⟨word_.1.toArray⟩,.slice A_3_162 Value.length c_4_162] 46,rowI rU8 5 A_3_162 c_4_162 Value] w169:=H
      refine (Lr (some 52) 25 ⟨g4,1,none⟩ (.slice A_3_162 Value.length c_4_162) (H.cellB 2 rfl rfl) ?_)
      obtain ⟨F170,hse170,hFn170,hcl170⟩:=St.call [blkI g0 [.slice A_1_162 b.length c_2_162,.int .i64 at_,.int .i64 e_,.slice A0_3 r_.f_l.length c0_3,.bool full,.bool more] 56] H
      refine Sd (i:=3) H.has (Cl (some 54) 38 #[.pointer (some ⟨g0,0,none⟩)] Tryd.call38 (manifest_reader_pair_c H.has g0 ({ f_text:=({ f_b:=b,f_at:=at_,f_e:=e_ }:TManifestText),f_l:=r_.f_l,f_full:=full,f_more:=more }:TManifestReader) A_1_162 c_2_162 hs162_0 A0_3 c0_3 hse170 hFn170 h_pair) ?_)
      rintro _ w170 ⟨A170_o0_0,c170_o0_0,mk170,rfl,hS170,hs170_0⟩
      have hsub170:=hS170.sub
      replace H:=hcl170 _ _ _ hS170
      refine Sd (i:=4) (H.has.sub hsub170) (Nw (some 55) (fun g => .slice (some ⟨g,0,none⟩) 1 1) [.int .u8 (pair.1.toNat:Int)] 5 H ?_)
      intro g171 w171 H
      refine Sd (i:=5) (H.has.sub hsub170) (appS (r:=rU8) (some 56) 25 5 1 (.int .u8 0) 25 4 A_3_162 (some ⟨g171,0,none⟩) c_4_162 1 1 Value [pair.1] b1 _ H rfl ⟨Tryd.underlying25,by kernel_rfl⟩ rfl (by decide) (by kernel_rfl) (Cs.of_blk (H.blk 0 rfl)) (Rows.u8.2 rfl) rfl h_b1 (by decide) (by decide) ?_)
      intro A172 c172 w172 H
      replace H:=H.drop 0 rfl
      refine Sk hst [6] [0,2,1,3,4,5,6] [(0,.pointer (some ⟨g0,0,none⟩)),(2,.pointer (some ⟨g4,0,none⟩)),(56,.slice A172 b1.length c172),(57,.pointer (some ⟨g4,1,none⟩))] ?_
      refine Sd (i:=7) (H.has.sub hsub170) (Ss none 25 2 g4 1 (.slice A172 b1.length c172) H rfl rfl (of_decide_eq_true rfl) ?_)
      intro w173 H
      refine Ed (H.has.sub hsub170) ?_
      refine Sg 4 [.le 1,.bl 0,.le 0,.co [1,1,1,1]] [(0,.pointer (some ⟨g0,0,none⟩)),(2,.pointer (some ⟨g4,0,none⟩)),(3,.bool false)] ?_
      refine Lq (nk161,pair.2.f_text.f_b,pair.2.f_text.f_at,pair.2.f_text.f_e,pair.2.f_full,pair.2.f_more,b1,false,A170_o0_0,c170_o0_0,A172,c172,mk170) (Nat.lt_succ_self _) ⟨hnx161 _ (Option.some.inj hb_161).symm,H,(hsub162.trans hsub170),hs170_0⟩
     ·replace H:St w F m mm162 [blkI g0 [.slice A_1_162 b.length c_2_162,.int .i64 at_,.int .i64 e_,.slice A0_3 r_.f_l.length c0_3,.bool full,.bool more] 56,rowO oApiEntry 44 A0_3 c0_3 r_.f_l,blkI g4 [.string ⟨word_.1.toArray⟩,.slice A_3_162 Value.length c_4_162] 46,rowI rU8 5 A_3_162 c_4_162 Value] w169:=H
      obtain ⟨F174,hse174,hFn174,hcl174⟩:=St.call [blkI g0 [.slice A_1_162 b.length c_2_162,.int .i64 at_,.int .i64 e_,.slice A0_3 r_.f_l.length c0_3,.bool full,.bool more] 56] H
      refine (Cl (some 54) 38 #[.pointer (some ⟨g0,0,none⟩)] Tryd.call38 (manifest_reader_pair_c H.has g0 ({ f_text:=({ f_b:=b,f_at:=at_,f_e:=e_ }:TManifestText),f_l:=r_.f_l,f_full:=full,f_more:=more }:TManifestReader) A_1_162 c_2_162 hs162_0 A0_3 c0_3 hse174 hFn174 h_pair) ?_)
      rintro _ w174 ⟨A174_o0_0,c174_o0_0,mk174,rfl,hS174,hs174_0⟩
      have hsub174:=hS174.sub
      replace H:=hcl174 _ _ _ hS174
      refine allD2 [1,4] (by kernel_rfl) (H.has.sub hsub174) ⟨?_,?_,trivial⟩
      ·refine (Lr (some 52) 25 ⟨g4,1,none⟩ (.slice A_3_162 Value.length c_4_162) (H.cellB 2 rfl rfl) ?_)
       refine Sd (i:=4) (H.has.sub hsub174) (Nw (some 55) (fun g => .slice (some ⟨g,0,none⟩) 1 1) [.int .u8 (pair.1.toNat:Int)] 5 H ?_)
       intro g175 w175 H
       refine Sd (i:=5) (H.has.sub hsub174) (appS (r:=rU8) (some 56) 25 5 1 (.int .u8 0) 25 4 A_3_162 (some ⟨g175,0,none⟩) c_4_162 1 1 Value [pair.1] b1 _ H rfl ⟨Tryd.underlying25,by kernel_rfl⟩ rfl (by decide) (by kernel_rfl) (Cs.of_blk (H.blk 0 rfl)) (Rows.u8.2 rfl) rfl h_b1 (by decide) (by decide) ?_)
       intro A176 c176 w176 H
       replace H:=H.drop 0 rfl
       refine Sk hst [6] [0,2,3,1,4,5,6] [(0,.pointer (some ⟨g0,0,none⟩)),(2,.pointer (some ⟨g4,0,none⟩)),(56,.slice A176 b1.length c176),(57,.pointer (some ⟨g4,1,none⟩))] ?_
       refine Sd (i:=7) (H.has.sub hsub174) (Ss none 25 2 g4 1 (.slice A176 b1.length c176) H rfl rfl (of_decide_eq_true rfl) ?_)
       intro w177 H
       refine Ed (H.has.sub hsub174) ?_
       refine Sg 4 [.le 1,.bl 0,.le 0,.co [1,1,1,1]] [(0,.pointer (some ⟨g0,0,none⟩)),(2,.pointer (some ⟨g4,0,none⟩)),(3,.bool false)] ?_
       refine Lq (nk161,pair.2.f_text.f_b,pair.2.f_text.f_at,pair.2.f_text.f_e,pair.2.f_full,pair.2.f_more,b1,false,A174_o0_0,c174_o0_0,A176,c176,mk174) (Nat.lt_succ_self _) ⟨hnx161 _ (Option.some.inj hb_161).symm,H,(hsub162.trans hsub174),hs174_0⟩
      ·replace H:St w F m mk174 [blkI g0 [.slice A174_o0_0 pair.2.f_text.f_b.length c174_o0_0,.int .i64 pair.2.f_text.f_at,.int .i64 pair.2.f_text.f_e,.slice A0_3 r_.f_l.length c0_3,.bool pair.2.f_full,.bool pair.2.f_more] 56,rowO oApiEntry 44 A0_3 c0_3 r_.f_l,blkI g4 [.string ⟨word_.1.toArray⟩,.slice A_3_162 Value.length c_4_162] 46,rowI rU8 5 A_3_162 c_4_162 Value] w174:=H
       refine (Nw (some 55) (fun g => .slice (some ⟨g,0,none⟩) 1 1) [.int .u8 (pair.1.toNat:Int)] 5 H ?_)
       intro g178 w178 H
       refine Sd (i:=1) (H.has.sub hsub174) (Lr (some 52) 25 ⟨g4,1,none⟩ (.slice A_3_162 Value.length c_4_162) (H.cellB 3 rfl rfl) ?_)
       refine Sd (i:=5) (H.has.sub hsub174) (appS (r:=rU8) (some 56) 25 5 1 (.int .u8 0) 25 4 A_3_162 (some ⟨g178,0,none⟩) c_4_162 1 1 Value [pair.1] b1 _ H rfl ⟨Tryd.underlying25,by kernel_rfl⟩ rfl (by decide) (by kernel_rfl) (Cs.of_blk (H.blk 0 rfl)) (Rows.u8.2 rfl) rfl h_b1 (by decide) (by decide) ?_)
       intro A179 c179 w179 H
       replace H:=H.drop 0 rfl
       refine Sk hst [6] [0,2,3,4,1,5,6] [(0,.pointer (some ⟨g0,0,none⟩)),(2,.pointer (some ⟨g4,0,none⟩)),(56,.slice A179 b1.length c179),(57,.pointer (some ⟨g4,1,none⟩))] ?_
       refine Sd (i:=7) (H.has.sub hsub174) (Ss none 25 2 g4 1 (.slice A179 b1.length c179) H rfl rfl (of_decide_eq_true rfl) ?_)
       intro w180 H
       refine Ed (H.has.sub hsub174) ?_
       refine Sg 4 [.le 1,.bl 0,.le 0,.co [1,1,1,1]] [(0,.pointer (some ⟨g0,0,none⟩)),(2,.pointer (some ⟨g4,0,none⟩)),(3,.bool false)] ?_
       refine Lq (nk161,pair.2.f_text.f_b,pair.2.f_text.f_at,pair.2.f_text.f_e,pair.2.f_full,pair.2.f_more,b1,false,A174_o0_0,c174_o0_0,A179,c179,mk174) (Nat.lt_succ_self _) ⟨hnx161 _ (Option.some.inj hb_161).symm,H,(hsub162.trans hsub174),hs174_0⟩
    ·rw [hb164]
     refine Sg 3 [.op [1,1,1,0,1,0,1,1,0,0,0,0] 12,.co [1,1,1,0,1,0,1,1,0,0,0,1],.co [1,1,1,0,1,0,1,1,0,0,1],.le 1,.bl 0,.le 0,.co [1,1,1,1]] [(0,.pointer (some ⟨g0,0,none⟩)),(2,.pointer (some ⟨g4,0,none⟩)),(41,.bool true),(43,.bool false),(46,.pointer (some ⟨g0,0,none⟩))] ?_
     obtain ⟨peek1,h_peek1,hb_161⟩:=bindE hb_161
     obtain ⟨F181,hse181,hFn181,hcl181⟩:=St.call [blkI g0 [.slice A_1_162 b.length c_2_162,.int .i64 at_,.int .i64 e_,.slice A0_3 r_.f_l.length c0_3,.bool full,.bool more] 56] H
     refine st (Cl (some 47) 37 #[.pointer (some ⟨g0,0,none⟩)] Tryd.call37 (manifest_text_peek_c H.has g0 ({ f_text:=({ f_b:=b,f_at:=at_,f_e:=e_ }:TManifestText),f_l:=r_.f_l,f_full:=full,f_more:=more }:TManifestReader) A_1_162 c_2_162 hs162_0 A0_3 c0_3 hse181 hFn181 h_peek1) ?_)
     rintro _ w181 ⟨mk181,rfl,hS181⟩
     have hsub181:=hS181.sub
     replace H:=hcl181 _ _ _ hS181
     refine Sg 4 [.co [1,1,1,0,1,0,1,1,0,0,0,1],.co [1,1,1,0,1,0,1,1,0,0,1],.le 1,.bl 0,.le 0,.co [1,1,1,1]] [(0,.pointer (some ⟨g0,0,none⟩)),(2,.pointer (some ⟨g4,0,none⟩)),(50,.bool ((peek1.toNat:Int) != 10))] ?_
     rcases condT hb_161 with ⟨hb182,hb_161⟩ | ⟨hb182,hb_161⟩
     ·rw [hb182]
      refine Sg 4 [.co [1,1,1,0,1,0,1,1,0,0,1,0,0],.bl 1,.co [1,1,1,0,1,0,1,1,0,0,1,1],.le 1,.bl 0,.le 0,.co [1,1,1,1]] [(0,.pointer (some ⟨g0,0,none⟩)),(2,.pointer (some ⟨g4,0,none⟩))] ?_
      obtain ⟨pair1,h_pair1,hb_161⟩:=bindE hb_161
      obtain ⟨b2,h_b2,hb_161⟩:=bindE hb_161
      have hst:statB (bodyOf Tryd.f44) [1,1,1,0,1,0,1,1,0,0,1,0,0]=true:=by kernel_rfl
      refine Dw (Has mk181) H ?_
      intro w187 H
      refine Sk hst [0,2] [0,2] [(0,.pointer (some ⟨g0,0,none⟩)),(2,.pointer (some ⟨g4,0,none⟩)),(51,.pointer (some ⟨g4,1,none⟩)),(53,.pointer (some ⟨g0,0,none⟩))] ?_
      refine allD2 [1,3] (by kernel_rfl) H.has ⟨?_,?_,trivial⟩
      ·replace H:St w F m mk181 [blkI g0 [.slice A_1_162 b.length c_2_162,.int .i64 at_,.int .i64 e_,.slice A0_3 r_.f_l.length c0_3,.bool full,.bool more] 56,rowO oApiEntry 44 A0_3 c0_3 r_.f_l,blkI g4 [.string ⟨word_.1.toArray⟩,.slice A_3_162 Value.length c_4_162] 46,rowI rU8 5 A_3_162 c_4_162 Value] w187:=H
       refine (Lr (some 52) 25 ⟨g4,1,none⟩ (.slice A_3_162 Value.length c_4_162) (H.cellB 2 rfl rfl) ?_)
       obtain ⟨F188,hse188,hFn188,hcl188⟩:=St.call [blkI g0 [.slice A_1_162 b.length c_2_162,.int .i64 at_,.int .i64 e_,.slice A0_3 r_.f_l.length c0_3,.bool full,.bool more] 56] H
       refine Sd (i:=3) H.has (Cl (some 54) 38 #[.pointer (some ⟨g0,0,none⟩)] Tryd.call38 (manifest_reader_pair_c H.has g0 ({ f_text:=({ f_b:=b,f_at:=at_,f_e:=e_ }:TManifestText),f_l:=r_.f_l,f_full:=full,f_more:=more }:TManifestReader) A_1_162 c_2_162 (hs162_0.mono hsub181) A0_3 c0_3 hse188 hFn188 h_pair1) ?_)
       rintro _ w188 ⟨A188_o0_0,c188_o0_0,mk188,rfl,hS188,hs188_0⟩
       have hsub188:=hS188.sub
       replace H:=hcl188 _ _ _ hS188
       refine Sd (i:=4) (H.has.sub hsub188) (Nw (some 55) (fun g => .slice (some ⟨g,0,none⟩) 1 1) [.int .u8 (pair1.1.toNat:Int)] 5 H ?_)
       intro g189 w189 H
       refine Sd (i:=5) (H.has.sub hsub188) (appS (r:=rU8) (some 56) 25 5 1 (.int .u8 0) 25 4 A_3_162 (some ⟨g189,0,none⟩) c_4_162 1 1 Value [pair1.1] b2 _ H rfl ⟨Tryd.underlying25,by kernel_rfl⟩ rfl (by decide) (by kernel_rfl) (Cs.of_blk (H.blk 0 rfl)) (Rows.u8.2 rfl) rfl h_b2 (by decide) (by decide) ?_)
       intro A190 c190 w190 H
       replace H:=H.drop 0 rfl
       refine Sk hst [6] [0,2,1,3,4,5,6] [(0,.pointer (some ⟨g0,0,none⟩)),(2,.pointer (some ⟨g4,0,none⟩)),(56,.slice A190 b2.length c190),(57,.pointer (some ⟨g4,1,none⟩))] ?_
       refine Sd (i:=7) (H.has.sub hsub188) (Ss none 25 2 g4 1 (.slice A190 b2.length c190) H rfl rfl (of_decide_eq_true rfl) ?_)
       intro w191 H
       refine Ed (H.has.sub hsub188) ?_
       refine Sg 4 [.le 1,.bl 0,.le 0,.co [1,1,1,1]] [(0,.pointer (some ⟨g0,0,none⟩)),(2,.pointer (some ⟨g4,0,none⟩)),(3,.bool false)] ?_
       refine Lq (nk161,pair1.2.f_text.f_b,pair1.2.f_text.f_at,pair1.2.f_text.f_e,pair1.2.f_full,pair1.2.f_more,b2,false,A188_o0_0,c188_o0_0,A190,c190,mk188) (Nat.lt_succ_self _) ⟨hnx161 _ (Option.some.inj hb_161).symm,H,((hsub162.trans hsub181).trans hsub188),hs188_0⟩
      ·replace H:St w F m mk181 [blkI g0 [.slice A_1_162 b.length c_2_162,.int .i64 at_,.int .i64 e_,.slice A0_3 r_.f_l.length c0_3,.bool full,.bool more] 56,rowO oApiEntry 44 A0_3 c0_3 r_.f_l,blkI g4 [.string ⟨word_.1.toArray⟩,.slice A_3_162 Value.length c_4_162] 46,rowI rU8 5 A_3_162 c_4_162 Value] w187:=H
       obtain ⟨F192,hse192,hFn192,hcl192⟩:=St.call [blkI g0 [.slice A_1_162 b.length c_2_162,.int .i64 at_,.int .i64 e_,.slice A0_3 r_.f_l.length c0_3,.bool full,.bool more] 56] H
       refine (Cl (some 54) 38 #[.pointer (some ⟨g0,0,none⟩)] Tryd.call38 (manifest_reader_pair_c H.has g0 ({ f_text:=({ f_b:=b,f_at:=at_,f_e:=e_ }:TManifestText),f_l:=r_.f_l,f_full:=full,f_more:=more }:TManifestReader) A_1_162 c_2_162 (hs162_0.mono hsub181) A0_3 c0_3 hse192 hFn192 h_pair1) ?_)
       rintro _ w192 ⟨A192_o0_0,c192_o0_0,mk192,rfl,hS192,hs192_0⟩
       have hsub192:=hS192.sub
       replace H:=hcl192 _ _ _ hS192
       refine allD2 [1,4] (by kernel_rfl) (H.has.sub hsub192) ⟨?_,?_,trivial⟩
       ·refine (Lr (some 52) 25 ⟨g4,1,none⟩ (.slice A_3_162 Value.length c_4_162) (H.cellB 2 rfl rfl) ?_)
        refine Sd (i:=4) (H.has.sub hsub192) (Nw (some 55) (fun g => .slice (some ⟨g,0,none⟩) 1 1) [.int .u8 (pair1.1.toNat:Int)] 5 H ?_)
        intro g193 w193 H
        refine Sd (i:=5) (H.has.sub hsub192) (appS (r:=rU8) (some 56) 25 5 1 (.int .u8 0) 25 4 A_3_162 (some ⟨g193,0,none⟩) c_4_162 1 1 Value [pair1.1] b2 _ H rfl ⟨Tryd.underlying25,by kernel_rfl⟩ rfl (by decide) (by kernel_rfl) (Cs.of_blk (H.blk 0 rfl)) (Rows.u8.2 rfl) rfl h_b2 (by decide) (by decide) ?_)
        intro A194 c194 w194 H
        replace H:=H.drop 0 rfl
        refine Sk hst [6] [0,2,3,1,4,5,6] [(0,.pointer (some ⟨g0,0,none⟩)),(2,.pointer (some ⟨g4,0,none⟩)),(56,.slice A194 b2.length c194),(57,.pointer (some ⟨g4,1,none⟩))] ?_
        refine Sd (i:=7) (H.has.sub hsub192) (Ss none 25 2 g4 1 (.slice A194 b2.length c194) H rfl rfl (of_decide_eq_true rfl) ?_)
        intro w195 H
        refine Ed (H.has.sub hsub192) ?_
        refine Sg 4 [.le 1,.bl 0,.le 0,.co [1,1,1,1]] [(0,.pointer (some ⟨g0,0,none⟩)),(2,.pointer (some ⟨g4,0,none⟩)),(3,.bool false)] ?_
        refine Lq (nk161,pair1.2.f_text.f_b,pair1.2.f_text.f_at,pair1.2.f_text.f_e,pair1.2.f_full,pair1.2.f_more,b2,false,A192_o0_0,c192_o0_0,A194,c194,mk192) (Nat.lt_succ_self _) ⟨hnx161 _ (Option.some.inj hb_161).symm,H,((hsub162.trans hsub181).trans hsub192),hs192_0⟩
       ·replace H:St w F m mk192 [blkI g0 [.slice A192_o0_0 pair1.2.f_text.f_b.length c192_o0_0,.int .i64 pair1.2.f_text.f_at,.int .i64 pair1.2.f_text.f_e,.slice A0_3 r_.f_l.length c0_3,.bool pair1.2.f_full,.bool pair1.2.f_more] 56,rowO oApiEntry 44 A0_3 c0_3 r_.f_l,blkI g4 [.string ⟨word_.1.toArray⟩,.slice A_3_162 Value.length c_4_162] 46,rowI rU8 5 A_3_162 c_4_162 Value] w192:=H
        refine (Nw (some 55) (fun g => .slice (some ⟨g,0,none⟩) 1 1) [.int .u8 (pair1.1.toNat:Int)] 5 H ?_)
        intro g196 w196 H
        refine Sd (i:=1) (H.has.sub hsub192) (Lr (some 52) 25 ⟨g4,1,none⟩ (.slice A_3_162 Value.length c_4_162) (H.cellB 3 rfl rfl) ?_)
        refine Sd (i:=5) (H.has.sub hsub192) (appS (r:=rU8) (some 56) 25 5 1 (.int .u8 0) 25 4 A_3_162 (some ⟨g196,0,none⟩) c_4_162 1 1 Value [pair1.1] b2 _ H rfl ⟨Tryd.underlying25,by kernel_rfl⟩ rfl (by decide) (by kernel_rfl) (Cs.of_blk (H.blk 0 rfl)) (Rows.u8.2 rfl) rfl h_b2 (by decide) (by decide) ?_)
        intro A197 c197 w197 H
        replace H:=H.drop 0 rfl
        refine Sk hst [6] [0,2,3,4,1,5,6] [(0,.pointer (some ⟨g0,0,none⟩)),(2,.pointer (some ⟨g4,0,none⟩)),(56,.slice A197 b2.length c197),(57,.pointer (some ⟨g4,1,none⟩))] ?_
        refine Sd (i:=7) (H.has.sub hsub192) (Ss none 25 2 g4 1 (.slice A197 b2.length c197) H rfl rfl (of_decide_eq_true rfl) ?_)
        intro w198 H
        refine Ed (H.has.sub hsub192) ?_
        refine Sg 4 [.le 1,.bl 0,.le 0,.co [1,1,1,1]] [(0,.pointer (some ⟨g0,0,none⟩)),(2,.pointer (some ⟨g4,0,none⟩)),(3,.bool false)] ?_
        refine Lq (nk161,pair1.2.f_text.f_b,pair1.2.f_text.f_at,pair1.2.f_text.f_e,pair1.2.f_full,pair1.2.f_more,b2,false,A192_o0_0,c192_o0_0,A197,c197,mk192) (Nat.lt_succ_self _) ⟨hnx161 _ (Option.some.inj hb_161).symm,H,((hsub162.trans hsub181).trans hsub192),hs192_0⟩
     ·rw [hb182]
      refine Sg 2 [.le 0,.co [1,1,1,1]] [(0,.pointer (some ⟨g0,0,none⟩)),(2,.pointer (some ⟨g4,0,none⟩))] ?_
      refine leR_up (k':=[]) (by rfl) ?_
      refine Lj (b,at_,e_,full,more,Value,A_1_162,c_2_162,A_3_162,c_4_162,mk181) ⟨(hfin161 _ (Option.some.inj hb_161).symm).symm,H,(hsub162.trans hsub181),(hs162_0.mono hsub181)⟩
   ·rw [hb163]
    refine Sg 12 [.le 0,.co [1,1,1,1]] [(0,.pointer (some ⟨g0,0,none⟩)),(2,.pointer (some ⟨g4,0,none⟩))] ?_
    refine leR_up (k':=[]) (by rfl) ?_
    refine Lj (b,at_,e_,full,more,Value,A_1_162,c_2_162,A_3_162,c_4_162,mm162) ⟨(hfin161 _ (Option.some.inj hb_161).symm).symm,H,hsub162,hs162_0⟩
  rintro ⟨b,at_,e_,full,more,Value,A_1_141,c_2_141,A_3_141,c_4_141,mm141⟩ wj140 ⟨hy140,H,hsub141,hs141_0⟩
  try dsimp only at hy140
  try dsimp only at H
  try dsimp only at hsub141
  try dsimp only at hs141_0
  rw [hy140] at hf
  try dsimp only at hf
  refine Sg 5 [.op [1,1,1,1,0] 3,.co [1,1,1,1,1]] [(0,.pointer (some ⟨g0,0,none⟩)),(2,.pointer (some ⟨g4,0,none⟩)),(60,.pointer (some ⟨g0,0,none⟩))] ?_
  obtain ⟨want1,h_want1,hf⟩:=bindE hf
  obtain ⟨F199,hse199,hFn199,hcl199⟩:=St.call [blkI g0 [.slice A_1_141 b.length c_2_141,.int .i64 at_,.int .i64 e_,.slice A0_3 r_.f_l.length c0_3,.bool full,.bool more] 56] H
  refine st (Cl (some 61) 50 #[.pointer (some ⟨g0,0,none⟩),.int .u8 10] Tryd.call50 (manifest_text_want_c H.has g0 ({ f_text:=({ f_b:=b,f_at:=at_,f_e:=e_ }:TManifestText),f_l:=r_.f_l,f_full:=full,f_more:=more }:TManifestReader) A_1_141 c_2_141 hs141_0 A0_3 c0_3 (10:UInt8) hse199 hFn199 h_want1) ?_)
  rintro _ w199 ⟨A199_o0_0,c199_o0_0,mk199,rfl,hS199,hs199_0⟩
  have hsub199:=hS199.sub
  replace H:=hcl199 _ _ _ hS199
  refine Sg 2 [.co [1,1,1,1,1,0],.co [1,1,1,1,1,1]] [(0,.pointer (some ⟨g0,0,none⟩)),(2,.pointer (some ⟨g4,0,none⟩))] ?_
  obtain ⟨x_,h_x_,hf⟩:=bindE hf
  obtain ⟨i0200,i1200,ix200⟩:=idx_some h_x_
  have hst:statB (bodyOf Tryd.f44) [1,1,1,1,1,0]=true:=by kernel_rfl
  refine Dw (fun w' => Has mk199 w' ∧ w'.heap[g0]?=some (.cells [.slice A199_o0_0 want1.f_text.f_b.length c199_o0_0,.int .i64 want1.f_text.f_at,.int .i64 want1.f_text.f_e,.slice A0_3 r_.f_l.length c0_3,.bool want1.f_full,.bool want1.f_more].toArray 56 (0,0)) ∧ w'.heap[g4]?=some (.cells [.string ⟨word_.1.toArray⟩,.slice A_3_141 Value.length c_4_141].toArray 46 (0,0))) H ?_
  intro w202 H
  refine Sk hst [0,1,2,4,5,6] [0,1,2,4,5,6] [(0,.pointer (some ⟨g0,0,none⟩)),(2,.pointer (some ⟨g4,0,none⟩)),(64,.pointer (some ⟨g0,3,none⟩)),(68,.pointer (some ⟨g0,3,none⟩))] ?_
  refine Tk (i:=3) (d:=(some 65)) (s:=vS (Instr.loadAt 22 (.pointer (some ⟨g0,3,none⟩)))) (v:=(.slice A0_3 r_.f_l.length c0_3)) hst (fun w' hw' => ld_run _ _ _ (by kernel_rfl) (blk_cell hw'.2.1 rfl)) ?_
  replace H:St w F m mk199 [blkI g0 [.slice A199_o0_0 want1.f_text.f_b.length c199_o0_0,.int .i64 want1.f_text.f_at,.int .i64 want1.f_text.f_e,.slice A0_3 r_.f_l.length c0_3,.bool want1.f_full,.bool want1.f_more] 56,rowO oApiEntry 44 A0_3 c0_3 r_.f_l,blkI g4 [.string ⟨word_.1.toArray⟩,.slice A_3_141 Value.length c_4_141] 46,rowI rU8 5 A_3_141 c_4_141 Value] w202:=H
  refine Sd (i:=7) ⟨H.has,H.blk 0 rfl,H.blk 2 rfl⟩ (Lr (some 69) 22 ⟨g0,3,none⟩ (.slice A0_3 r_.f_l.length c0_3) (H.cellB 0 rfl rfl) ?_)
  refine Sk hst [8,9] [0,1,2,4,5,6,3,7,8,9] [(0,.pointer (some ⟨g0,0,none⟩)),(2,.pointer (some ⟨g4,0,none⟩)),(65,.slice A0_3 r_.f_l.length c0_3),(71,.int .i64 (IntKind.i64.wrap ((r_.f_l.length:Int) - 1)))] ?_
  obtain ⟨ad203,ea203⟩:=H.rowOA 1 rfl ix200
  refine Sd (i:=10) ⟨H.has,H.blk 0 rfl,H.blk 2 rfl⟩ (Ix (some 72) 22 44 11 A0_3 ad203 r_.f_l.length c0_3 .i64 (IntKind.i64.wrap ((r_.f_l.length:Int) - 1)) ea203 i0200 i1200 ?_)
  refine Sk hst [11] [0,1,2,4,5,6,3,7,8,9,10,11] [(0,.pointer (some ⟨g0,0,none⟩)),(2,.pointer (some ⟨g4,0,none⟩)),(4,.pointer (some (ad203.add ((IntKind.i64.wrap ((r_.f_l.length:Int) - 1)).toNat * 11))))] ?_
  refine Ed ⟨H.has,H.blk 0 rfl,H.blk 2 rfl⟩ ?_
  refine Sg 1 [.co [1,1,1,1,1,1,0],.co [1,1,1,1,1,1,1]] [(0,.pointer (some ⟨g0,0,none⟩)),(2,.pointer (some ⟨g4,0,none⟩)),(4,.pointer (some (ad203.add ((IntKind.i64.wrap ((r_.f_l.length:Int) - 1)).toNat * 11))))] ?_
  obtain ⟨b3,h_b3,hf⟩:=bindE hf
  have hst:statB (bodyOf Tryd.f44) [1,1,1,1,1,1,0]=true:=by kernel_rfl
  refine Dw (fun w' => Has mk199 w' ∧ w'.heap[g0]?=some (.cells [.slice A199_o0_0 want1.f_text.f_b.length c199_o0_0,.int .i64 want1.f_text.f_at,.int .i64 want1.f_text.f_e,.slice A0_3 r_.f_l.length c0_3,.bool want1.f_full,.bool want1.f_more].toArray 56 (0,0)) ∧ w'.heap[g4]?=some (.cells [.string ⟨word_.1.toArray⟩,.slice A_3_141 Value.length c_4_141].toArray 46 (0,0))) H ?_
  intro w210 H
  refine Sk hst [0,1,2,3] [0,1,2,3] [(0,.pointer (some ⟨g0,0,none⟩)),(2,.pointer (some ⟨g4,0,none⟩)),(73,.pointer (some (ad203.add ((IntKind.i64.wrap ((r_.f_l.length:Int) - 1)).toNat * 11)))),(76,.pointer (some ((ad203.add ((IntKind.i64.wrap ((r_.f_l.length:Int) - 1)).toNat * 11)).add 10)))] ?_
  refine Tk (i:=5) (d:=(some 78)) (s:=vS (Instr.loadAt 46 (.pointer (some ⟨g4,0,none⟩)))) (v:=(.agg #[.string ⟨word_.1.toArray⟩,.slice A_3_141 Value.length c_4_141])) hst (fun w' hw' => aggRun _ _ [.string ⟨word_.1.toArray⟩,.slice A_3_141 Value.length c_4_141] (by kernel_rfl) (blk_cells hw'.2.2 (by rfl))) ?_
  refine allD2 [4,6] (by kernel_rfl) ⟨H.has,H.blk 0 rfl,H.blk 2 rfl⟩ ⟨?_,?_,trivial⟩
  ·obtain ⟨cs211,H⟩:=H.openO 1 rfl ix200
   obtain ⟨A211_7,c211_7,A211_10,c211_10,rfl,⟨hl211_0,hl211_8⟩,H⟩:=oApiEntry_open H
   replace H:St w F m mk199 [rowI rU8 5 A211_7 c211_7 x_.Data,rowI rApiAttr 46 A211_10 c211_10 x_.Attrs,holeO oApiEntry 44 A0_3 c0_3 r_.f_l ((IntKind.i64.wrap ((r_.f_l.length:Int) - 1)).toNat) [.string ⟨x_.Path.toArray⟩,.int .i64 x_.Kind,.int .i64 x_.Mode,.int .i64 x_.Uid,.int .i64 x_.Gid,.int .i64 x_.Time,.int .i64 x_.Size,.slice A211_7 x_.Data.length c211_7,.string ⟨x_.Target.toArray⟩,.int .i64 x_.Dev,.slice A211_10 x_.Attrs.length c211_10],blkI g0 [.slice A199_o0_0 want1.f_text.f_b.length c199_o0_0,.int .i64 want1.f_text.f_at,.int .i64 want1.f_text.f_e,.slice A0_3 r_.f_l.length c0_3,.bool want1.f_full,.bool want1.f_more] 56,blkI g4 [.string ⟨word_.1.toArray⟩,.slice A_3_141 Value.length c_4_141] 46,rowI rU8 5 A_3_141 c_4_141 Value] w210:=H
   have hc212:=H.holeCell 2 rfl ea203 (by decide)
   refine (Lr (some 77) 42 ((ad203.add ((IntKind.i64.wrap ((r_.f_l.length:Int) - 1)).toNat * 11)).add 10) (.slice A211_10 x_.Attrs.length c211_10) (hc212 10 _ rfl) ?_)
   refine Sd (i:=6) ⟨H.has,H.blk 3 rfl,H.blk 4 rfl⟩ (Nw (some 79) (fun g => .slice (some ⟨g,0,none⟩) 1 1) [.string ⟨word_.1.toArray⟩,.slice A_3_141 Value.length c_4_141] 46 H ?_)
   intro g213 w213 H
   replace H:St w F m mk199 [blkI g213 [.string ⟨word_.1.toArray⟩,.slice A_3_141 Value.length c_4_141] 46,rowI rU8 5 A211_7 c211_7 x_.Data,rowI rApiAttr 46 A211_10 c211_10 x_.Attrs,holeO oApiEntry 44 A0_3 c0_3 r_.f_l ((IntKind.i64.wrap ((r_.f_l.length:Int) - 1)).toNat) [.string ⟨x_.Path.toArray⟩,.int .i64 x_.Kind,.int .i64 x_.Mode,.int .i64 x_.Uid,.int .i64 x_.Gid,.int .i64 x_.Time,.int .i64 x_.Size,.slice A211_7 x_.Data.length c211_7,.string ⟨x_.Target.toArray⟩,.int .i64 x_.Dev,.slice A211_10 x_.Attrs.length c211_10],blkI g0 [.slice A199_o0_0 want1.f_text.f_b.length c199_o0_0,.int .i64 want1.f_text.f_at,.int .i64 want1.f_text.f_e,.slice A0_3 r_.f_l.length c0_3,.bool want1.f_full,.bool want1.f_more] 56,blkI g4 [.string ⟨word_.1.toArray⟩,.slice A_3_141 Value.length c_4_141] 46,rowI rU8 5 A_3_141 c_4_141 Value] w213:=H
   obtain ⟨mf214,hsub214,hsf214,H⟩:=H.fixR 6 rfl
   refine Sd (i:=7) ⟨(H.has.sub hsub214),H.blk 4 rfl,H.blk 5 rfl⟩ (appS (r:=rApiAttr) (some 80) 42 46 40 (.agg #[.string ⟨([]:List UInt8).toArray⟩,.slice none 0 0]) 42 2 A211_10 (some ⟨g213,0,none⟩) c211_10 1 1 x_.Attrs [({ Name:=word_.1,Value:=Value }:TApiAttr)] b3 _ H rfl ⟨Tryd.underlying42,by kernel_rfl⟩ rfl (by decide) (by kernel_rfl) (Cs.of_blk (H.blk 0 rfl)) (Rows.cons (cs:=[.string ⟨word_.1.toArray⟩,.slice A_3_141 Value.length c_4_141]) ⟨A_3_141,c_4_141,rfl,hl3_0,hsf214⟩ Rows.nil) rfl h_b3 (by decide) (by decide) ?_)
   intro A215 c215 w215 H
   replace H:=H.drop 0 rfl
   refine Sk hst [8,9] [0,1,2,3,5,4,6,7,8,9] [(0,.pointer (some ⟨g0,0,none⟩)),(80,.slice A215 b3.length c215),(82,.pointer (some ((ad203.add ((IntKind.i64.wrap ((r_.f_l.length:Int) - 1)).toNat * 11)).add 10)))] ?_
   refine Sd (i:=10) ⟨(H.has.sub hsub214),H.blk 3 rfl,H.blk 4 rfl⟩ (stHole none 42 2 ((IntKind.i64.wrap ((r_.f_l.length:Int) - 1)).toNat) 10 A0_3 c0_3 r_.f_l 44 [.string ⟨x_.Path.toArray⟩,.int .i64 x_.Kind,.int .i64 x_.Mode,.int .i64 x_.Uid,.int .i64 x_.Gid,.int .i64 x_.Time,.int .i64 x_.Size,.slice A211_7 x_.Data.length c211_7,.string ⟨x_.Target.toArray⟩,.int .i64 x_.Dev,.slice A211_10 x_.Attrs.length c211_10] (.slice A215 b3.length c215) ad203 H rfl ea203 (by kernel_rfl) (by kernel_rfl) rfl (of_decide_eq_true rfl) ?_)
   intro w216 H
   replace H:St w F m mf214 [holeO oApiEntry 44 A0_3 c0_3 r_.f_l ((IntKind.i64.wrap ((r_.f_l.length:Int) - 1)).toNat) [.string ⟨x_.Path.toArray⟩,.int .i64 x_.Kind,.int .i64 x_.Mode,.int .i64 x_.Uid,.int .i64 x_.Gid,.int .i64 x_.Time,.int .i64 x_.Size,.slice A211_7 x_.Data.length c211_7,.string ⟨x_.Target.toArray⟩,.int .i64 x_.Dev,.slice A215 b3.length c215],rowI rU8 5 A211_7 c211_7 x_.Data,rowI rApiAttr 46 A215 c215 b3,blkI g0 [.slice A199_o0_0 want1.f_text.f_b.length c199_o0_0,.int .i64 want1.f_text.f_at,.int .i64 want1.f_text.f_e,.slice A0_3 r_.f_l.length c0_3,.bool want1.f_full,.bool want1.f_more] 56,blkI g4 [.string ⟨word_.1.toArray⟩,.slice A_3_141 Value.length c_4_141] 46] w216:=H
   refine Ed ⟨(H.has.sub hsub214),H.blk 3 rfl,H.blk 4 rfl⟩ ?_
   refine Sg 4 [.op [1,1,1,1,1,1,1] 3] [(85,.pointer (some ⟨g0,4,none⟩))] ?_
   refine st (Ss none 4 3 g0 4 (.bool false) H rfl rfl (of_decide_eq_true rfl) ?_)
   intro w217 H
   refine Sg 1 [] [] ?_
   replace H:St w F m mf214 [rowI rU8 5 A211_7 c211_7 x_.Data,rowI rApiAttr 46 A215 c215 b3,holeO oApiEntry 44 A0_3 c0_3 r_.f_l ((IntKind.i64.wrap ((r_.f_l.length:Int) - 1)).toNat) [.string ⟨x_.Path.toArray⟩,.int .i64 x_.Kind,.int .i64 x_.Mode,.int .i64 x_.Uid,.int .i64 x_.Gid,.int .i64 x_.Time,.int .i64 x_.Size,.slice A211_7 x_.Data.length c211_7,.string ⟨x_.Target.toArray⟩,.int .i64 x_.Dev,.slice A215 b3.length c215],blkI g0 [.slice A199_o0_0 want1.f_text.f_b.length c199_o0_0,.int .i64 want1.f_text.f_at,.int .i64 want1.f_text.f_e,.slice A0_3 r_.f_l.length c0_3,.bool false,.bool want1.f_more] 56,blkI g4 [.string ⟨word_.1.toArray⟩,.slice A_3_141 Value.length c_4_141] 46] w217:=((H.pull 2 rfl).pull 2 rfl)
   obtain ⟨l_,h_l_,hf⟩:=ltE hf
   replace H:=St.closeO (oApiEntry_close (x:=({ Path:=x_.Path,Kind:=x_.Kind,Mode:=x_.Mode,Uid:=x_.Uid,Gid:=x_.Gid,Time:=x_.Time,Size:=x_.Size,Data:=x_.Data,Target:=x_.Target,Dev:=x_.Dev,Attrs:=b3 }:TApiEntry)) ⟨hl211_0,hl211_8⟩ H)
   rw [h_l_] at H
   have hn_l_:r_.f_l.length=l_.length:=by rw [← h_l_,List.length_set]
   try rw [hn_l_] at H
   try rw [hn_l_]
   replace H:St w F m mf214 [rowO oApiEntry 44 A0_3 c0_3 l_,blkI g0 [.slice A199_o0_0 want1.f_text.f_b.length c199_o0_0,.int .i64 want1.f_text.f_at,.int .i64 want1.f_text.f_e,.slice A0_3 l_.length c0_3,.bool false,.bool want1.f_more] 56,blkI g4 [.string ⟨word_.1.toArray⟩,.slice A_3_141 Value.length c_4_141] 46] w217:=H
   refine Er [] [] ?_
   obtain rfl:({ f_text:=want1.f_text,f_l:=l_,f_full:=false,f_more:=want1.f_more }:TManifestReader)=r:=(Option.some.inj hf)
   exact ⟨_,rfl,A199_o0_0,c199_o0_0,A0_3,c0_3,mf214,rfl,(St.takeN 2 (H.pull 1 rfl)),(hs199_0.mono hsub214)⟩
  ·replace H:St w F m mk199 [blkI g0 [.slice A199_o0_0 want1.f_text.f_b.length c199_o0_0,.int .i64 want1.f_text.f_at,.int .i64 want1.f_text.f_e,.slice A0_3 r_.f_l.length c0_3,.bool want1.f_full,.bool want1.f_more] 56,rowO oApiEntry 44 A0_3 c0_3 r_.f_l,blkI g4 [.string ⟨word_.1.toArray⟩,.slice A_3_141 Value.length c_4_141] 46,rowI rU8 5 A_3_141 c_4_141 Value] w210:=H
   refine (Nw (some 79) (fun g => .slice (some ⟨g,0,none⟩) 1 1) [.string ⟨word_.1.toArray⟩,.slice A_3_141 Value.length c_4_141] 46 H ?_)
   intro g218 w218 H
   obtain ⟨cs219,H⟩:=H.openO 2 rfl ix200
   obtain ⟨A219_7,c219_7,A219_10,c219_10,rfl,⟨hl219_0,hl219_8⟩,H⟩:=oApiEntry_open H
   replace H:St w F m mk199 [rowI rU8 5 A219_7 c219_7 x_.Data,rowI rApiAttr 46 A219_10 c219_10 x_.Attrs,holeO oApiEntry 44 A0_3 c0_3 r_.f_l ((IntKind.i64.wrap ((r_.f_l.length:Int) - 1)).toNat) [.string ⟨x_.Path.toArray⟩,.int .i64 x_.Kind,.int .i64 x_.Mode,.int .i64 x_.Uid,.int .i64 x_.Gid,.int .i64 x_.Time,.int .i64 x_.Size,.slice A219_7 x_.Data.length c219_7,.string ⟨x_.Target.toArray⟩,.int .i64 x_.Dev,.slice A219_10 x_.Attrs.length c219_10],blkI g218 [.string ⟨word_.1.toArray⟩,.slice A_3_141 Value.length c_4_141] 46,blkI g0 [.slice A199_o0_0 want1.f_text.f_b.length c199_o0_0,.int .i64 want1.f_text.f_at,.int .i64 want1.f_text.f_e,.slice A0_3 r_.f_l.length c0_3,.bool want1.f_full,.bool want1.f_more] 56,blkI g4 [.string ⟨word_.1.toArray⟩,.slice A_3_141 Value.length c_4_141] 46,rowI rU8 5 A_3_141 c_4_141 Value] w218:=H
   have hc220:=H.holeCell 2 rfl ea203 (by decide)
   refine Sd (i:=4) ⟨H.has,H.blk 4 rfl,H.blk 5 rfl⟩ (Lr (some 77) 42 ((ad203.add ((IntKind.i64.wrap ((r_.f_l.length:Int) - 1)).toNat * 11)).add 10) (.slice A219_10 x_.Attrs.length c219_10) (hc220 10 _ rfl) ?_)
   obtain ⟨mf221,hsub221,hsf221,H⟩:=H.fixR 6 rfl
   refine Sd (i:=7) ⟨(H.has.sub hsub221),H.blk 4 rfl,H.blk 5 rfl⟩ (appS (r:=rApiAttr) (some 80) 42 46 40 (.agg #[.string ⟨([]:List UInt8).toArray⟩,.slice none 0 0]) 42 1 A219_10 (some ⟨g218,0,none⟩) c219_10 1 1 x_.Attrs [({ Name:=word_.1,Value:=Value }:TApiAttr)] b3 _ H rfl ⟨Tryd.underlying42,by kernel_rfl⟩ rfl (by decide) (by kernel_rfl) (Cs.of_blk (H.blk 3 rfl)) (Rows.cons (cs:=[.string ⟨word_.1.toArray⟩,.slice A_3_141 Value.length c_4_141]) ⟨A_3_141,c_4_141,rfl,hl3_0,hsf221⟩ Rows.nil) rfl h_b3 (by decide) (by decide) ?_)
   intro A222 c222 w222 H
   replace H:=H.drop 3 rfl
   refine Sk hst [8,9] [0,1,2,3,5,6,4,7,8,9] [(0,.pointer (some ⟨g0,0,none⟩)),(80,.slice A222 b3.length c222),(82,.pointer (some ((ad203.add ((IntKind.i64.wrap ((r_.f_l.length:Int) - 1)).toNat * 11)).add 10)))] ?_
   refine Sd (i:=10) ⟨(H.has.sub hsub221),H.blk 3 rfl,H.blk 4 rfl⟩ (stHole none 42 2 ((IntKind.i64.wrap ((r_.f_l.length:Int) - 1)).toNat) 10 A0_3 c0_3 r_.f_l 44 [.string ⟨x_.Path.toArray⟩,.int .i64 x_.Kind,.int .i64 x_.Mode,.int .i64 x_.Uid,.int .i64 x_.Gid,.int .i64 x_.Time,.int .i64 x_.Size,.slice A219_7 x_.Data.length c219_7,.string ⟨x_.Target.toArray⟩,.int .i64 x_.Dev,.slice A219_10 x_.Attrs.length c219_10] (.slice A222 b3.length c222) ad203 H rfl ea203 (by kernel_rfl) (by kernel_rfl) rfl (of_decide_eq_true rfl) ?_)
   intro w223 H
   replace H:St w F m mf221 [holeO oApiEntry 44 A0_3 c0_3 r_.f_l ((IntKind.i64.wrap ((r_.f_l.length:Int) - 1)).toNat) [.string ⟨x_.Path.toArray⟩,.int .i64 x_.Kind,.int .i64 x_.Mode,.int .i64 x_.Uid,.int .i64 x_.Gid,.int .i64 x_.Time,.int .i64 x_.Size,.slice A219_7 x_.Data.length c219_7,.string ⟨x_.Target.toArray⟩,.int .i64 x_.Dev,.slice A222 b3.length c222],rowI rU8 5 A219_7 c219_7 x_.Data,rowI rApiAttr 46 A222 c222 b3,blkI g0 [.slice A199_o0_0 want1.f_text.f_b.length c199_o0_0,.int .i64 want1.f_text.f_at,.int .i64 want1.f_text.f_e,.slice A0_3 r_.f_l.length c0_3,.bool want1.f_full,.bool want1.f_more] 56,blkI g4 [.string ⟨word_.1.toArray⟩,.slice A_3_141 Value.length c_4_141] 46] w223:=H
   refine Ed ⟨(H.has.sub hsub221),H.blk 3 rfl,H.blk 4 rfl⟩ ?_
   refine Sg 4 [.op [1,1,1,1,1,1,1] 3] [(85,.pointer (some ⟨g0,4,none⟩))] ?_
   refine st (Ss none 4 3 g0 4 (.bool false) H rfl rfl (of_decide_eq_true rfl) ?_)
   intro w224 H
   refine Sg 1 [] [] ?_
   replace H:St w F m mf221 [rowI rU8 5 A219_7 c219_7 x_.Data,rowI rApiAttr 46 A222 c222 b3,holeO oApiEntry 44 A0_3 c0_3 r_.f_l ((IntKind.i64.wrap ((r_.f_l.length:Int) - 1)).toNat) [.string ⟨x_.Path.toArray⟩,.int .i64 x_.Kind,.int .i64 x_.Mode,.int .i64 x_.Uid,.int .i64 x_.Gid,.int .i64 x_.Time,.int .i64 x_.Size,.slice A219_7 x_.Data.length c219_7,.string ⟨x_.Target.toArray⟩,.int .i64 x_.Dev,.slice A222 b3.length c222],blkI g0 [.slice A199_o0_0 want1.f_text.f_b.length c199_o0_0,.int .i64 want1.f_text.f_at,.int .i64 want1.f_text.f_e,.slice A0_3 r_.f_l.length c0_3,.bool false,.bool want1.f_more] 56,blkI g4 [.string ⟨word_.1.toArray⟩,.slice A_3_141 Value.length c_4_141] 46] w224:=((H.pull 2 rfl).pull 2 rfl)
   obtain ⟨l_,h_l_,hf⟩:=ltE hf
   replace H:=St.closeO (oApiEntry_close (x:=({ Path:=x_.Path,Kind:=x_.Kind,Mode:=x_.Mode,Uid:=x_.Uid,Gid:=x_.Gid,Time:=x_.Time,Size:=x_.Size,Data:=x_.Data,Target:=x_.Target,Dev:=x_.Dev,Attrs:=b3 }:TApiEntry)) ⟨hl219_0,hl219_8⟩ H)
   rw [h_l_] at H
   have hn_l_:r_.f_l.length=l_.length:=by rw [← h_l_,List.length_set]
   try rw [hn_l_] at H
   try rw [hn_l_]
   replace H:St w F m mf221 [rowO oApiEntry 44 A0_3 c0_3 l_,blkI g0 [.slice A199_o0_0 want1.f_text.f_b.length c199_o0_0,.int .i64 want1.f_text.f_at,.int .i64 want1.f_text.f_e,.slice A0_3 l_.length c0_3,.bool false,.bool want1.f_more] 56,blkI g4 [.string ⟨word_.1.toArray⟩,.slice A_3_141 Value.length c_4_141] 46] w224:=H
   refine Er [] [] ?_
   obtain rfl:({ f_text:=want1.f_text,f_l:=l_,f_full:=false,f_more:=want1.f_more }:TManifestReader)=r:=(Option.some.inj hf)
   exact ⟨_,rfl,A199_o0_0,c199_o0_0,A0_3,c0_3,mf221,rfl,(St.takeN 2 (H.pull 1 rfl)),(hs199_0.mono hsub221)⟩
 ·rw [hb106]
  refine Sg 7 [.op [1,1,1,1,0] 3,.co [1,1,1,1,1]] [(0,.pointer (some ⟨g0,0,none⟩)),(2,.pointer (some ⟨g4,0,none⟩)),(60,.pointer (some ⟨g0,0,none⟩))] ?_
  replace H:St w F m mk6 [blkI g0 [.slice A3_o0_0 word_.2.f_text.f_b.length c3_o0_0,.int .i64 word_.2.f_text.f_at,.int .i64 word_.2.f_text.f_e,.slice A0_3 r_.f_l.length c0_3,.bool word_.2.f_full,.bool word_.2.f_more] 56,blkI g4 [.string ⟨word_.1.toArray⟩,.slice none 0 0] 46,rowO oApiEntry 44 A0_3 c0_3 r_.f_l] w6:=H
  obtain ⟨want2,h_want2,hf⟩:=bindE hf
  obtain ⟨F225,hse225,hFn225,hcl225⟩:=St.call [blkI g0 [.slice A3_o0_0 word_.2.f_text.f_b.length c3_o0_0,.int .i64 word_.2.f_text.f_at,.int .i64 word_.2.f_text.f_e,.slice A0_3 r_.f_l.length c0_3,.bool word_.2.f_full,.bool word_.2.f_more] 56] H
  refine st (Cl (some 61) 50 #[.pointer (some ⟨g0,0,none⟩),.int .u8 10] Tryd.call50 (manifest_text_want_c H.has g0 ({ f_text:=word_.2.f_text,f_l:=r_.f_l,f_full:=word_.2.f_full,f_more:=word_.2.f_more }:TManifestReader) A3_o0_0 c3_o0_0 (hs3_0.mono hsub6) A0_3 c0_3 (10:UInt8) hse225 hFn225 h_want2) ?_)
  rintro _ w225 ⟨A225_o0_0,c225_o0_0,mk225,rfl,hS225,hs225_0⟩
  have hsub225:=hS225.sub
  replace H:=hcl225 _ _ _ hS225
  refine Sg 2 [.co [1,1,1,1,1,0],.co [1,1,1,1,1,1]] [(0,.pointer (some ⟨g0,0,none⟩)),(2,.pointer (some ⟨g4,0,none⟩))] ?_
  obtain ⟨x_1,h_x_1,hf⟩:=bindE hf
  obtain ⟨i0226,i1226,ix226⟩:=idx_some h_x_1
  have hst:statB (bodyOf Tryd.f44) [1,1,1,1,1,0]=true:=by kernel_rfl
  refine Dw (fun w' => Has mk225 w' ∧ w'.heap[g0]?=some (.cells [.slice A225_o0_0 want2.f_text.f_b.length c225_o0_0,.int .i64 want2.f_text.f_at,.int .i64 want2.f_text.f_e,.slice A0_3 r_.f_l.length c0_3,.bool want2.f_full,.bool want2.f_more].toArray 56 (0,0)) ∧ w'.heap[g4]?=some (.cells [.string ⟨word_.1.toArray⟩,.slice none 0 0].toArray 46 (0,0))) H ?_
  intro w228 H
  refine Sk hst [0,1,2,4,5,6] [0,1,2,4,5,6] [(0,.pointer (some ⟨g0,0,none⟩)),(2,.pointer (some ⟨g4,0,none⟩)),(64,.pointer (some ⟨g0,3,none⟩)),(68,.pointer (some ⟨g0,3,none⟩))] ?_
  refine Tk (i:=3) (d:=(some 65)) (s:=vS (Instr.loadAt 22 (.pointer (some ⟨g0,3,none⟩)))) (v:=(.slice A0_3 r_.f_l.length c0_3)) hst (fun w' hw' => ld_run _ _ _ (by kernel_rfl) (blk_cell hw'.2.1 rfl)) ?_
  refine Sd (i:=7) ⟨H.has,H.blk 0 rfl,H.blk 1 rfl⟩ (Lr (some 69) 22 ⟨g0,3,none⟩ (.slice A0_3 r_.f_l.length c0_3) (H.cellB 0 rfl rfl) ?_)
  refine Sk hst [8,9] [0,1,2,4,5,6,3,7,8,9] [(0,.pointer (some ⟨g0,0,none⟩)),(2,.pointer (some ⟨g4,0,none⟩)),(65,.slice A0_3 r_.f_l.length c0_3),(71,.int .i64 (IntKind.i64.wrap ((r_.f_l.length:Int) - 1)))] ?_
  obtain ⟨ad229,ea229⟩:=H.rowOA 2 rfl ix226
  refine Sd (i:=10) ⟨H.has,H.blk 0 rfl,H.blk 1 rfl⟩ (Ix (some 72) 22 44 11 A0_3 ad229 r_.f_l.length c0_3 .i64 (IntKind.i64.wrap ((r_.f_l.length:Int) - 1)) ea229 i0226 i1226 ?_)
  refine Sk hst [11] [0,1,2,4,5,6,3,7,8,9,10,11] [(0,.pointer (some ⟨g0,0,none⟩)),(2,.pointer (some ⟨g4,0,none⟩)),(4,.pointer (some (ad229.add ((IntKind.i64.wrap ((r_.f_l.length:Int) - 1)).toNat * 11))))] ?_
  refine Ed ⟨H.has,H.blk 0 rfl,H.blk 1 rfl⟩ ?_
  refine Sg 1 [.co [1,1,1,1,1,1,0],.co [1,1,1,1,1,1,1]] [(0,.pointer (some ⟨g0,0,none⟩)),(2,.pointer (some ⟨g4,0,none⟩)),(4,.pointer (some (ad229.add ((IntKind.i64.wrap ((r_.f_l.length:Int) - 1)).toNat * 11))))] ?_
  obtain ⟨b4,h_b4,hf⟩:=bindE hf
  have hst:statB (bodyOf Tryd.f44) [1,1,1,1,1,1,0]=true:=by kernel_rfl
  refine Dw (fun w' => Has mk225 w' ∧ w'.heap[g0]?=some (.cells [.slice A225_o0_0 want2.f_text.f_b.length c225_o0_0,.int .i64 want2.f_text.f_at,.int .i64 want2.f_text.f_e,.slice A0_3 r_.f_l.length c0_3,.bool want2.f_full,.bool want2.f_more].toArray 56 (0,0)) ∧ w'.heap[g4]?=some (.cells [.string ⟨word_.1.toArray⟩,.slice none 0 0].toArray 46 (0,0))) H ?_
  intro w235 H
  refine Sk hst [0,1,2,3] [0,1,2,3] [(0,.pointer (some ⟨g0,0,none⟩)),(2,.pointer (some ⟨g4,0,none⟩)),(73,.pointer (some (ad229.add ((IntKind.i64.wrap ((r_.f_l.length:Int) - 1)).toNat * 11)))),(76,.pointer (some ((ad229.add ((IntKind.i64.wrap ((r_.f_l.length:Int) - 1)).toNat * 11)).add 10)))] ?_
  refine Tk (i:=5) (d:=(some 78)) (s:=vS (Instr.loadAt 46 (.pointer (some ⟨g4,0,none⟩)))) (v:=(.agg #[.string ⟨word_.1.toArray⟩,.slice none 0 0])) hst (fun w' hw' => aggRun _ _ [.string ⟨word_.1.toArray⟩,.slice none 0 0] (by kernel_rfl) (blk_cells hw'.2.2 (by rfl))) ?_
  refine allD2 [4,6] (by kernel_rfl) ⟨H.has,H.blk 0 rfl,H.blk 1 rfl⟩ ⟨?_,?_,trivial⟩
  ·replace H:St w F m mk225 [blkI g0 [.slice A225_o0_0 want2.f_text.f_b.length c225_o0_0,.int .i64 want2.f_text.f_at,.int .i64 want2.f_text.f_e,.slice A0_3 r_.f_l.length c0_3,.bool want2.f_full,.bool want2.f_more] 56,blkI g4 [.string ⟨word_.1.toArray⟩,.slice none 0 0] 46,rowO oApiEntry 44 A0_3 c0_3 r_.f_l] w235:=H
   obtain ⟨cs236,H⟩:=H.openO 2 rfl ix226
   obtain ⟨A236_7,c236_7,A236_10,c236_10,rfl,⟨hl236_0,hl236_8⟩,H⟩:=oApiEntry_open H
   replace H:St w F m mk225 [rowI rU8 5 A236_7 c236_7 x_1.Data,rowI rApiAttr 46 A236_10 c236_10 x_1.Attrs,holeO oApiEntry 44 A0_3 c0_3 r_.f_l ((IntKind.i64.wrap ((r_.f_l.length:Int) - 1)).toNat) [.string ⟨x_1.Path.toArray⟩,.int .i64 x_1.Kind,.int .i64 x_1.Mode,.int .i64 x_1.Uid,.int .i64 x_1.Gid,.int .i64 x_1.Time,.int .i64 x_1.Size,.slice A236_7 x_1.Data.length c236_7,.string ⟨x_1.Target.toArray⟩,.int .i64 x_1.Dev,.slice A236_10 x_1.Attrs.length c236_10],blkI g0 [.slice A225_o0_0 want2.f_text.f_b.length c225_o0_0,.int .i64 want2.f_text.f_at,.int .i64 want2.f_text.f_e,.slice A0_3 r_.f_l.length c0_3,.bool want2.f_full,.bool want2.f_more] 56,blkI g4 [.string ⟨word_.1.toArray⟩,.slice none 0 0] 46] w235:=H
   have hc237:=H.holeCell 2 rfl ea229 (by decide)
   refine (Lr (some 77) 42 ((ad229.add ((IntKind.i64.wrap ((r_.f_l.length:Int) - 1)).toNat * 11)).add 10) (.slice A236_10 x_1.Attrs.length c236_10) (hc237 10 _ rfl) ?_)
   refine Sd (i:=6) ⟨H.has,H.blk 3 rfl,H.blk 4 rfl⟩ (Nw (some 79) (fun g => .slice (some ⟨g,0,none⟩) 1 1) [.string ⟨word_.1.toArray⟩,.slice none 0 0] 46 H ?_)
   intro g238 w238 H
   refine Sd (i:=7) ⟨H.has,H.blk 4 rfl,H.blk 5 rfl⟩ (appS (r:=rApiAttr) (some 80) 42 46 40 (.agg #[.string ⟨([]:List UInt8).toArray⟩,.slice none 0 0]) 42 2 A236_10 (some ⟨g238,0,none⟩) c236_10 1 1 x_1.Attrs [({ Name:=word_.1,Value:=[] }:TApiAttr)] b4 _ H rfl ⟨Tryd.underlying42,by kernel_rfl⟩ rfl (by decide) (by kernel_rfl) (Cs.of_blk (H.blk 0 rfl)) (Rows.cons (cs:=[.string ⟨word_.1.toArray⟩,.slice none 0 0]) ⟨none,0,rfl,hl3_0,(SlI.nil _ _)⟩ Rows.nil) rfl h_b4 (by decide) (by decide) ?_)
   intro A239 c239 w239 H
   replace H:=H.drop 0 rfl
   refine Sk hst [8,9] [0,1,2,3,5,4,6,7,8,9] [(0,.pointer (some ⟨g0,0,none⟩)),(80,.slice A239 b4.length c239),(82,.pointer (some ((ad229.add ((IntKind.i64.wrap ((r_.f_l.length:Int) - 1)).toNat * 11)).add 10)))] ?_
   refine Sd (i:=10) ⟨H.has,H.blk 3 rfl,H.blk 4 rfl⟩ (stHole none 42 2 ((IntKind.i64.wrap ((r_.f_l.length:Int) - 1)).toNat) 10 A0_3 c0_3 r_.f_l 44 [.string ⟨x_1.Path.toArray⟩,.int .i64 x_1.Kind,.int .i64 x_1.Mode,.int .i64 x_1.Uid,.int .i64 x_1.Gid,.int .i64 x_1.Time,.int .i64 x_1.Size,.slice A236_7 x_1.Data.length c236_7,.string ⟨x_1.Target.toArray⟩,.int .i64 x_1.Dev,.slice A236_10 x_1.Attrs.length c236_10] (.slice A239 b4.length c239) ad229 H rfl ea229 (by kernel_rfl) (by kernel_rfl) rfl (of_decide_eq_true rfl) ?_)
   intro w240 H
   replace H:St w F m mk225 [holeO oApiEntry 44 A0_3 c0_3 r_.f_l ((IntKind.i64.wrap ((r_.f_l.length:Int) - 1)).toNat) [.string ⟨x_1.Path.toArray⟩,.int .i64 x_1.Kind,.int .i64 x_1.Mode,.int .i64 x_1.Uid,.int .i64 x_1.Gid,.int .i64 x_1.Time,.int .i64 x_1.Size,.slice A236_7 x_1.Data.length c236_7,.string ⟨x_1.Target.toArray⟩,.int .i64 x_1.Dev,.slice A239 b4.length c239],rowI rU8 5 A236_7 c236_7 x_1.Data,rowI rApiAttr 46 A239 c239 b4,blkI g0 [.slice A225_o0_0 want2.f_text.f_b.length c225_o0_0,.int .i64 want2.f_text.f_at,.int .i64 want2.f_text.f_e,.slice A0_3 r_.f_l.length c0_3,.bool want2.f_full,.bool want2.f_more] 56,blkI g4 [.string ⟨word_.1.toArray⟩,.slice none 0 0] 46] w240:=H
   refine Ed ⟨H.has,H.blk 3 rfl,H.blk 4 rfl⟩ ?_
   refine Sg 4 [.op [1,1,1,1,1,1,1] 3] [(85,.pointer (some ⟨g0,4,none⟩))] ?_
   refine st (Ss none 4 3 g0 4 (.bool false) H rfl rfl (of_decide_eq_true rfl) ?_)
   intro w241 H
   refine Sg 1 [] [] ?_
   replace H:St w F m mk225 [rowI rU8 5 A236_7 c236_7 x_1.Data,rowI rApiAttr 46 A239 c239 b4,holeO oApiEntry 44 A0_3 c0_3 r_.f_l ((IntKind.i64.wrap ((r_.f_l.length:Int) - 1)).toNat) [.string ⟨x_1.Path.toArray⟩,.int .i64 x_1.Kind,.int .i64 x_1.Mode,.int .i64 x_1.Uid,.int .i64 x_1.Gid,.int .i64 x_1.Time,.int .i64 x_1.Size,.slice A236_7 x_1.Data.length c236_7,.string ⟨x_1.Target.toArray⟩,.int .i64 x_1.Dev,.slice A239 b4.length c239],blkI g0 [.slice A225_o0_0 want2.f_text.f_b.length c225_o0_0,.int .i64 want2.f_text.f_at,.int .i64 want2.f_text.f_e,.slice A0_3 r_.f_l.length c0_3,.bool false,.bool want2.f_more] 56,blkI g4 [.string ⟨word_.1.toArray⟩,.slice none 0 0] 46] w241:=((H.pull 2 rfl).pull 2 rfl)
   obtain ⟨l_1,h_l_1,hf⟩:=ltE hf
   replace H:=St.closeO (oApiEntry_close (x:=({ Path:=x_1.Path,Kind:=x_1.Kind,Mode:=x_1.Mode,Uid:=x_1.Uid,Gid:=x_1.Gid,Time:=x_1.Time,Size:=x_1.Size,Data:=x_1.Data,Target:=x_1.Target,Dev:=x_1.Dev,Attrs:=b4 }:TApiEntry)) ⟨hl236_0,hl236_8⟩ H)
   rw [h_l_1] at H
   have hn_l_1:r_.f_l.length=l_1.length:=by rw [← h_l_1,List.length_set]
   try rw [hn_l_1] at H
   try rw [hn_l_1]
   replace H:St w F m mk225 [rowO oApiEntry 44 A0_3 c0_3 l_1,blkI g0 [.slice A225_o0_0 want2.f_text.f_b.length c225_o0_0,.int .i64 want2.f_text.f_at,.int .i64 want2.f_text.f_e,.slice A0_3 l_1.length c0_3,.bool false,.bool want2.f_more] 56,blkI g4 [.string ⟨word_.1.toArray⟩,.slice none 0 0] 46] w241:=H
   refine Er [] [] ?_
   obtain rfl:({ f_text:=want2.f_text,f_l:=l_1,f_full:=false,f_more:=want2.f_more }:TManifestReader)=r:=(Option.some.inj hf)
   exact ⟨_,rfl,A225_o0_0,c225_o0_0,A0_3,c0_3,mk225,rfl,(St.takeN 2 (H.pull 1 rfl)),hs225_0⟩
  ·replace H:St w F m mk225 [blkI g0 [.slice A225_o0_0 want2.f_text.f_b.length c225_o0_0,.int .i64 want2.f_text.f_at,.int .i64 want2.f_text.f_e,.slice A0_3 r_.f_l.length c0_3,.bool want2.f_full,.bool want2.f_more] 56,blkI g4 [.string ⟨word_.1.toArray⟩,.slice none 0 0] 46,rowO oApiEntry 44 A0_3 c0_3 r_.f_l] w235:=H
   refine (Nw (some 79) (fun g => .slice (some ⟨g,0,none⟩) 1 1) [.string ⟨word_.1.toArray⟩,.slice none 0 0] 46 H ?_)
   intro g242 w242 H
   obtain ⟨cs243,H⟩:=H.openO 3 rfl ix226
   obtain ⟨A243_7,c243_7,A243_10,c243_10,rfl,⟨hl243_0,hl243_8⟩,H⟩:=oApiEntry_open H
   replace H:St w F m mk225 [rowI rU8 5 A243_7 c243_7 x_1.Data,rowI rApiAttr 46 A243_10 c243_10 x_1.Attrs,holeO oApiEntry 44 A0_3 c0_3 r_.f_l ((IntKind.i64.wrap ((r_.f_l.length:Int) - 1)).toNat) [.string ⟨x_1.Path.toArray⟩,.int .i64 x_1.Kind,.int .i64 x_1.Mode,.int .i64 x_1.Uid,.int .i64 x_1.Gid,.int .i64 x_1.Time,.int .i64 x_1.Size,.slice A243_7 x_1.Data.length c243_7,.string ⟨x_1.Target.toArray⟩,.int .i64 x_1.Dev,.slice A243_10 x_1.Attrs.length c243_10],blkI g242 [.string ⟨word_.1.toArray⟩,.slice none 0 0] 46,blkI g0 [.slice A225_o0_0 want2.f_text.f_b.length c225_o0_0,.int .i64 want2.f_text.f_at,.int .i64 want2.f_text.f_e,.slice A0_3 r_.f_l.length c0_3,.bool want2.f_full,.bool want2.f_more] 56,blkI g4 [.string ⟨word_.1.toArray⟩,.slice none 0 0] 46] w242:=H
   have hc244:=H.holeCell 2 rfl ea229 (by decide)
   refine Sd (i:=4) ⟨H.has,H.blk 4 rfl,H.blk 5 rfl⟩ (Lr (some 77) 42 ((ad229.add ((IntKind.i64.wrap ((r_.f_l.length:Int) - 1)).toNat * 11)).add 10) (.slice A243_10 x_1.Attrs.length c243_10) (hc244 10 _ rfl) ?_)
   refine Sd (i:=7) ⟨H.has,H.blk 4 rfl,H.blk 5 rfl⟩ (appS (r:=rApiAttr) (some 80) 42 46 40 (.agg #[.string ⟨([]:List UInt8).toArray⟩,.slice none 0 0]) 42 1 A243_10 (some ⟨g242,0,none⟩) c243_10 1 1 x_1.Attrs [({ Name:=word_.1,Value:=[] }:TApiAttr)] b4 _ H rfl ⟨Tryd.underlying42,by kernel_rfl⟩ rfl (by decide) (by kernel_rfl) (Cs.of_blk (H.blk 3 rfl)) (Rows.cons (cs:=[.string ⟨word_.1.toArray⟩,.slice none 0 0]) ⟨none,0,rfl,hl3_0,(SlI.nil _ _)⟩ Rows.nil) rfl h_b4 (by decide) (by decide) ?_)
   intro A245 c245 w245 H
   replace H:=H.drop 3 rfl
   refine Sk hst [8,9] [0,1,2,3,5,6,4,7,8,9] [(0,.pointer (some ⟨g0,0,none⟩)),(80,.slice A245 b4.length c245),(82,.pointer (some ((ad229.add ((IntKind.i64.wrap ((r_.f_l.length:Int) - 1)).toNat * 11)).add 10)))] ?_
   refine Sd (i:=10) ⟨H.has,H.blk 3 rfl,H.blk 4 rfl⟩ (stHole none 42 2 ((IntKind.i64.wrap ((r_.f_l.length:Int) - 1)).toNat) 10 A0_3 c0_3 r_.f_l 44 [.string ⟨x_1.Path.toArray⟩,.int .i64 x_1.Kind,.int .i64 x_1.Mode,.int .i64 x_1.Uid,.int .i64 x_1.Gid,.int .i64 x_1.Time,.int .i64 x_1.Size,.slice A243_7 x_1.Data.length c243_7,.string ⟨x_1.Target.toArray⟩,.int .i64 x_1.Dev,.slice A243_10 x_1.Attrs.length c243_10] (.slice A245 b4.length c245) ad229 H rfl ea229 (by kernel_rfl) (by kernel_rfl) rfl (of_decide_eq_true rfl) ?_)
   intro w246 H
   replace H:St w F m mk225 [holeO oApiEntry 44 A0_3 c0_3 r_.f_l ((IntKind.i64.wrap ((r_.f_l.length:Int) - 1)).toNat) [.string ⟨x_1.Path.toArray⟩,.int .i64 x_1.Kind,.int .i64 x_1.Mode,.int .i64 x_1.Uid,.int .i64 x_1.Gid,.int .i64 x_1.Time,.int .i64 x_1.Size,.slice A243_7 x_1.Data.length c243_7,.string ⟨x_1.Target.toArray⟩,.int .i64 x_1.Dev,.slice A245 b4.length c245],rowI rU8 5 A243_7 c243_7 x_1.Data,rowI rApiAttr 46 A245 c245 b4,blkI g0 [.slice A225_o0_0 want2.f_text.f_b.length c225_o0_0,.int .i64 want2.f_text.f_at,.int .i64 want2.f_text.f_e,.slice A0_3 r_.f_l.length c0_3,.bool want2.f_full,.bool want2.f_more] 56,blkI g4 [.string ⟨word_.1.toArray⟩,.slice none 0 0] 46] w246:=H
   refine Ed ⟨H.has,H.blk 3 rfl,H.blk 4 rfl⟩ ?_
   refine Sg 4 [.op [1,1,1,1,1,1,1] 3] [(85,.pointer (some ⟨g0,4,none⟩))] ?_
   refine st (Ss none 4 3 g0 4 (.bool false) H rfl rfl (of_decide_eq_true rfl) ?_)
   intro w247 H
   refine Sg 1 [] [] ?_
   replace H:St w F m mk225 [rowI rU8 5 A243_7 c243_7 x_1.Data,rowI rApiAttr 46 A245 c245 b4,holeO oApiEntry 44 A0_3 c0_3 r_.f_l ((IntKind.i64.wrap ((r_.f_l.length:Int) - 1)).toNat) [.string ⟨x_1.Path.toArray⟩,.int .i64 x_1.Kind,.int .i64 x_1.Mode,.int .i64 x_1.Uid,.int .i64 x_1.Gid,.int .i64 x_1.Time,.int .i64 x_1.Size,.slice A243_7 x_1.Data.length c243_7,.string ⟨x_1.Target.toArray⟩,.int .i64 x_1.Dev,.slice A245 b4.length c245],blkI g0 [.slice A225_o0_0 want2.f_text.f_b.length c225_o0_0,.int .i64 want2.f_text.f_at,.int .i64 want2.f_text.f_e,.slice A0_3 r_.f_l.length c0_3,.bool false,.bool want2.f_more] 56,blkI g4 [.string ⟨word_.1.toArray⟩,.slice none 0 0] 46] w247:=((H.pull 2 rfl).pull 2 rfl)
   obtain ⟨l_1,h_l_1,hf⟩:=ltE hf
   replace H:=St.closeO (oApiEntry_close (x:=({ Path:=x_1.Path,Kind:=x_1.Kind,Mode:=x_1.Mode,Uid:=x_1.Uid,Gid:=x_1.Gid,Time:=x_1.Time,Size:=x_1.Size,Data:=x_1.Data,Target:=x_1.Target,Dev:=x_1.Dev,Attrs:=b4 }:TApiEntry)) ⟨hl243_0,hl243_8⟩ H)
   rw [h_l_1] at H
   have hn_l_1:r_.f_l.length=l_1.length:=by rw [← h_l_1,List.length_set]
   try rw [hn_l_1] at H
   try rw [hn_l_1]
   replace H:St w F m mk225 [rowO oApiEntry 44 A0_3 c0_3 l_1,blkI g0 [.slice A225_o0_0 want2.f_text.f_b.length c225_o0_0,.int .i64 want2.f_text.f_at,.int .i64 want2.f_text.f_e,.slice A0_3 l_1.length c0_3,.bool false,.bool want2.f_more] 56,blkI g4 [.string ⟨word_.1.toArray⟩,.slice none 0 0] 46] w247:=H
   refine Er [] [] ?_
   obtain rfl:({ f_text:=want2.f_text,f_l:=l_1,f_full:=false,f_more:=want2.f_more }:TManifestReader)=r:=(Option.some.inj hf)
   exact ⟨_,rfl,A225_o0_0,c225_o0_0,A0_3,c0_3,mk225,rfl,(St.takeN 2 (H.pull 1 rfl)),hs225_0⟩
theorem manifest_reader_next_c {m:Mem} {w:World} (hm:Has m w) (g0:Nat) (r_:TManifestReader) (A0_0:Option Addr) (c0_0:Nat) (s0_0:SlI rU8 m A0_0 c0_0 r_.f_text.f_b) (A0_3:Option Addr) (c0_3:Nat) {F:Nat → Prop} (hsep:Sep m w [blkI g0 [.slice A0_0 r_.f_text.f_b.length c0_0,.int .i64 r_.f_text.f_at,.int .i64 r_.f_text.f_e,.slice A0_3 r_.f_l.length c0_3,.bool r_.f_full,.bool r_.f_more] 56,rowO oApiEntry 44 A0_3 c0_3 r_.f_l] F) (hF:∀ k,F k → m k=none) {r:TManifestReader} (hf:manifest_reader_next r_=some r) :
  Calls Tryd.prog 28 #[.pointer (some ⟨g0,0,none⟩)] w fun e w' => ∃ v,e=.returned v ∧ ∃ Az_o0_0:Option Addr,∃ cz_o0_0:Nat,∃ Az_o0_3:Option Addr,∃ cz_o0_3:Nat,∃ m':Mem,v=.tuple #[] ∧ St w F m m' [blkI g0 [.slice Az_o0_0 r.f_text.f_b.length cz_o0_0,.int .i64 r.f_text.f_at,.int .i64 r.f_text.f_e,.slice Az_o0_3 r.f_l.length cz_o0_3,.bool r.f_full,.bool r.f_more] 56,rowO oApiEntry 44 Az_o0_3 cz_o0_3 r.f_l] w' ∧ SlI rU8 m' Az_o0_0 cz_o0_0 r.f_text.f_b:=by
 unfold manifest_reader_next at hf
 have H:=St.start hm hsep hF
 refine Fc Tryd.func28 ?_
 refine Sg 5 [.op [0] 3,.co [1]] [(0,.pointer (some ⟨g0,0,none⟩)),(6,.pointer (some ⟨g0,0,none⟩))] ?_
 obtain ⟨peek,h_peek,hf⟩:=bindE hf
 obtain ⟨F1,hse1,hFn1,hcl1⟩:=St.call [blkI g0 [.slice A0_0 r_.f_text.f_b.length c0_0,.int .i64 r_.f_text.f_at,.int .i64 r_.f_text.f_e,.slice A0_3 r_.f_l.length c0_3,.bool r_.f_full,.bool r_.f_more] 56] H
 refine st (Cl (some 7) 37 #[.pointer (some ⟨g0,0,none⟩)] Tryd.call37 (manifest_text_peek_c H.has g0 r_ A0_0 c0_0 s0_0 A0_3 c0_3 hse1 hFn1 h_peek) ?_)
 rintro _ w1 ⟨mk1,rfl,hS1⟩
 have hsub1:=hS1.sub
 replace H:=hcl1 _ _ _ hS1
 refine Sg 7 [.co [1,0,1],.co [1,1]] [(0,.pointer (some ⟨g0,0,none⟩)),(2,.int .u8 (peek.toNat:Int)),(8,.int .i64 0)] ?_
 obtain ⟨y36,hp36,hfl36,hfr36⟩:=bndE hf
 refine joinR 0 (fun (x:Unit) => [(0,.pointer (some ⟨g0,0,none⟩)),(2,.int .u8 (peek.toNat:Int))]) (fun (x:Unit) (wj36:World) => y36=.inl () ∧ St w F m mk1 [blkI g0 [.slice A0_0 r_.f_text.f_b.length c0_0,.int .i64 r_.f_text.f_at,.int .i64 r_.f_text.f_e,.slice A0_3 r_.f_l.length c0_3,.bool r_.f_full,.bool r_.f_more] 56,rowO oApiEntry 44 A0_3 c0_3 r_.f_l] wj36) (by kernel_rfl) ?_ ?_
 ·refine Sg 1 [.co [1,0,1,0],.bl 0,.le 0,.co [1,1]] [(0,.pointer (some ⟨g0,0,none⟩)),(2,.int .u8 (peek.toNat:Int)),(8,.int .i64 0)] ?_
  obtain ⟨nn45,hR45⟩:=loopO_iff.1 hp36
  refine Lp 1 (fun (x:Nat × Nat) => [(0,.pointer (some ⟨g0,0,none⟩)),(2,.int .u8 (peek.toNat:Int)),(8,.int .i64 (x.2:Int))]) (fun (x:Nat × Nat) (wl45:World) => iter (fun s => manifest_reader_next_l1 r_ peek s) x.1 x.2=some y36 ∧ St w F m mk1 [blkI g0 [.slice A0_0 r_.f_text.f_b.length c0_0,.int .i64 r_.f_text.f_at,.int .i64 r_.f_text.f_e,.slice A0_3 r_.f_l.length c0_3,.bool r_.f_full,.bool r_.f_more] 56,rowO oApiEntry 44 A0_3 c0_3 r_.f_l] wl45) (fun (x:Nat × Nat) => x.1) (nn45,0) ?_ ?_
  ·exact ⟨hR45,H⟩
  rintro ⟨n45,t⟩ wl45 ⟨hR45,H⟩
  try dsimp only at hR45
  try dsimp only at H
  obtain ⟨nk45,q45,rfl,hb_45,hnx45,hfin45⟩:=iterE hR45
  replace hb_45:manifest_reader_next_l1 r_ peek t=some q45:=hb_45
  unfold manifest_reader_next_l1 at hb_45
  refine Sg 5 [.co [1,0,1,0,0,1,0],.co [1,0,1,0,0,1,1],.le 1,.bl 0,.le 0,.co [1,1]] [(0,.pointer (some ⟨g0,0,none⟩)),(2,.int .u8 (peek.toNat:Int)),(8,.int .i64 (t:Int)),(9,.bool (decide ((t:Int) < 6)))] ?_
  rcases condT hb_45 with ⟨hb47,hb_45⟩ | ⟨hb47,hb_45⟩
  ·rw [hb47]
   have p47:=of_decide_eq_true hb47
   refine Sg 12 [.op [1,0,1,0,0,1,1,0,0,1,0] 1,.co [1,0,1,0,0,1,1,0,0,1,1],.bl 1,.co [1,0,1,0,0,1,1,1],.le 1,.bl 0,.le 0,.co [1,1]] [(0,.pointer (some ⟨g0,0,none⟩)),(2,.int .u8 (peek.toNat:Int)),(3,.int .i64 (t:Int)),(8,.int .i64 (t:Int)),(11,.int .i64 (t:Int))] ?_
   obtain ⟨c,h_c,hb_45⟩:=bindE hb_45
   refine st (Ts (some 12) 9 ([102,100,108,98,99,104]:List UInt8) .i64 (t:Int) c h_c ?_)
   refine Sg 3 [.co [1,0,1,0,0,1,1,0,0,1,1],.bl 1,.co [1,0,1,0,0,1,1,1],.le 1,.bl 0,.le 0,.co [1,1]] [(0,.pointer (some ⟨g0,0,none⟩)),(2,.int .u8 (peek.toNat:Int)),(3,.int .i64 (t:Int)),(8,.int .i64 (t:Int)),(14,.bool ((c.toNat:Int) == (peek.toNat:Int)))] ?_
   rcases condT hb_45 with ⟨hb48,hb_45⟩ | ⟨hb48,hb_45⟩
   ·rw [hb48]
    refine Sg 6 [.op [1,0,1,0,0,1,1,0,0,1,1,0,0] 3,.co [1,0,1,0,0,1,1,0,0,1,1,0,1],.bl 1,.co [1,0,1,0,0,1,1,1],.le 1,.bl 0,.le 0,.co [1,1]] [(15,.pointer (some ⟨g0,0,none⟩)),(17,.int .i64 (IntKind.i64.wrap ((t:Int)+1)))] ?_
    rw [show IntKind.i64.wrap ((t:Int)+1)=((t:Int)+1) from w64 (by omega)]
    obtain ⟨entry,h_entry,hb_45⟩:=bindE hb_45
    obtain ⟨F49,hse49,hFn49,hcl49⟩:=St.call [blkI g0 [.slice A0_0 r_.f_text.f_b.length c0_0,.int .i64 r_.f_text.f_at,.int .i64 r_.f_text.f_e,.slice A0_3 r_.f_l.length c0_3,.bool r_.f_full,.bool r_.f_more] 56,rowO oApiEntry 44 A0_3 c0_3 r_.f_l] ((H.pull 1 rfl).pull 1 rfl)
    refine st (Cl (some 18) 42 #[.pointer (some ⟨g0,0,none⟩),.int .i64 ((t:Int)+1)] Tryd.call42 (manifest_reader_entry_c H.has g0 r_ A0_0 c0_0 (s0_0.mono hsub1) A0_3 c0_3 ((t:Int)+1) hse49 hFn49 h_entry) ?_)
    rintro _ w49 ⟨A49_o0_0,c49_o0_0,A49_o0_3,c49_o0_3,mk49,rfl,hS49,hs49_0⟩
    have hsub49:=hS49.sub
    replace H:=hcl49 _ _ _ hS49
    refine Sg 1 [.co [1,0,1,0,0,1,1,0,0,1,1,0,1],.bl 1,.co [1,0,1,0,0,1,1,1],.le 1,.bl 0,.le 0,.co [1,1]] [] ?_
    refine Rr [] [] ?_
    have hret:=(hfr36 _ (hfin45 _ (Option.some.inj hb_45).symm).symm)
    subst hret
    exact ⟨_,rfl,A49_o0_0,c49_o0_0,A49_o0_3,c49_o0_3,mk49,rfl,H,hs49_0⟩
   ·rw [hb48]
    refine Sg 7 [.le 1,.bl 0,.le 0,.co [1,1]] [(0,.pointer (some ⟨g0,0,none⟩)),(2,.int .u8 (peek.toNat:Int)),(8,.int .i64 (IntKind.i64.wrap ((t:Int)+1)))] ?_
    rw [show IntKind.i64.wrap ((t:Int)+1)=((t:Int)+1) from w64 (by omega)]
    refine Lq (nk45,(t+1)) (Nat.lt_succ_self _) ⟨hnx45 _ (Option.some.inj hb_45).symm,H⟩
  ·rw [hb47]
   have p47:=of_decide_eq_false hb47
   refine Sg 2 [.le 0,.co [1,1]] [(0,.pointer (some ⟨g0,0,none⟩)),(2,.int .u8 (peek.toNat:Int))] ?_
   refine leR_up (k':=[]) (by rfl) ?_
   refine Lj () ⟨(hfin45 _ (Option.some.inj hb_45).symm).symm,H⟩
 rintro _ wj36 ⟨hy36,H⟩
 have hf:=hfl36 _ hy36
 try dsimp only at hf
 refine Sg 6 [.op [1,1,0,0] 3,.co [1,1,0,1],.bl 2] [(0,.pointer (some ⟨g0,0,none⟩)),(2,.int .u8 (peek.toNat:Int)),(32,.bool ((peek.toNat:Int) == 61))] ?_
 rcases condT hf with ⟨hb74,hf⟩ | ⟨hb74,hf⟩
 ·rw [hb74]
  refine Sg 3 [.op [1,1,0,0] 6,.co [1,1,0,1],.bl 2] [(0,.pointer (some ⟨g0,0,none⟩)),(2,.int .u8 (peek.toNat:Int)),(32,.bool true),(35,.pointer (some ⟨g0,4,none⟩))] ?_
  refine st (Lr (some 36) 4 ⟨g0,4,none⟩ (.bool r_.f_full) (H.cellB 0 rfl rfl) ?_)
  refine Sg 3 [.co [1,1,0,1],.bl 2] [(0,.pointer (some ⟨g0,0,none⟩)),(2,.int .u8 (peek.toNat:Int)),(29,.bool r_.f_full)] ?_
  rcases condT hf with ⟨hb75,hf⟩ | ⟨hb75,hf⟩
  ·rw [hb75]
   refine Sg 3 [.op [1,1,0,1,0] 1,.bl 2] [(38,.pointer (some ⟨g0,0,none⟩))] ?_
   obtain ⟨data,h_data,hf⟩:=bindE hf
   obtain ⟨F76,hse76,hFn76,hcl76⟩:=St.call [blkI g0 [.slice A0_0 r_.f_text.f_b.length c0_0,.int .i64 r_.f_text.f_at,.int .i64 r_.f_text.f_e,.slice A0_3 r_.f_l.length c0_3,.bool r_.f_full,.bool r_.f_more] 56,rowO oApiEntry 44 A0_3 c0_3 r_.f_l] ((H.pull 1 rfl).pull 1 rfl)
   refine st (Cl (some 39) 43 #[.pointer (some ⟨g0,0,none⟩)] Tryd.call43 (manifest_reader_data_c H.has g0 r_ A0_0 c0_0 (s0_0.mono hsub1) A0_3 c0_3 hse76 hFn76 h_data) ?_)
   rintro _ w76 ⟨A76_o0_0,c76_o0_0,A76_o0_3,c76_o0_3,mk76,rfl,hS76,hs76_0⟩
   have hsub76:=hS76.sub
   replace H:=hcl76 _ _ _ hS76
   refine Sg 2 [] [] ?_
   refine Er [] [] ?_
   have hret:=(Option.some.inj hf)
   subst hret
   exact ⟨_,rfl,A76_o0_0,c76_o0_0,A76_o0_3,c76_o0_3,mk76,rfl,H,hs76_0⟩
  ·rw [hb75]
   refine Sg 6 [.op [1,1,0,1,1,0] 3,.co [1,1,0,1,1,1],.bl 2] [(0,.pointer (some ⟨g0,0,none⟩)),(43,.bool ((peek.toNat:Int) == 64))] ?_
   rw [show ((peek.toNat:Int) == 64)=false from by rw [show (peek.toNat:Int)=61 from eq_of_beq hb74]; rfl]
   refine Sg 8 [.co [1,1,0,1,1,1,1],.bl 2] [(0,.pointer (some ⟨g0,0,none⟩))] ?_
   obtain ⟨fail,h_fail,hf⟩:=bindE hf
   have hst:statB (bodyOf Tryd.f28) [1,1,0,1,1,1,1]=true:=by kernel_rfl
   refine Dw (Has mk1) H ?_
   intro w78 H
   refine Sk hst [0,1,2,3,4,5,6] [0,1,2,3,4,5,6] [(22,.pointer (some ⟨g0,0,none⟩)),(26,.pointer (some ⟨g0,1,none⟩))] ?_
   replace H:St w F m mk1 [blkI g0 [.slice A0_0 r_.f_text.f_b.length c0_0,.int .i64 r_.f_text.f_at,.int .i64 r_.f_text.f_e,.slice A0_3 r_.f_l.length c0_3,.bool r_.f_full,.bool r_.f_more] 56,rowO oApiEntry 44 A0_3 c0_3 r_.f_l] w78:=H
   refine Sd (i:=7) H.has (Lr (some 27) 3 ⟨g0,1,none⟩ (.int .i64 r_.f_text.f_at) (H.cellB 0 rfl rfl) ?_)
   obtain ⟨F79,hse79,hFn79,hcl79⟩:=St.call [blkI g0 [.slice A0_0 r_.f_text.f_b.length c0_0,.int .i64 r_.f_text.f_at,.int .i64 r_.f_text.f_e,.slice A0_3 r_.f_l.length c0_3,.bool r_.f_full,.bool r_.f_more] 56] H
   refine Sd (i:=8) H.has (Cl (some 28) 39 #[.pointer (some ⟨g0,0,none⟩),.int .i64 6,.int .i64 r_.f_text.f_at] Tryd.call39 (manifest_text_fail_c H.has g0 r_ A0_0 c0_0 A0_3 c0_3 6 r_.f_text.f_at hse79 hFn79 h_fail) ?_)
   rintro _ w79 ⟨mk79,rfl,hS79⟩
   have hsub79:=hS79.sub
   replace H:=hcl79 _ _ _ hS79
   refine Ed (H.has.sub hsub79) ?_
   refine Sg 1 [] [] ?_
   refine Er [] [] ?_
   obtain rfl:({ f_text:=({ f_b:=r_.f_text.f_b,f_at:=fail.f_text.f_at,f_e:=fail.f_text.f_e }:TManifestText),f_l:=r_.f_l,f_full:=fail.f_full,f_more:=fail.f_more }:TManifestReader)=r:=(Option.some.inj hf)
   exact ⟨_,rfl,A0_0,c0_0,A0_3,c0_3,mk79,rfl,H,(s0_0.mono (hsub1.trans hsub79))⟩
 ·rw [hb74]
  refine Sg 13 [.op [1,1,0,1,1,0] 3,.co [1,1,0,1,1,1],.bl 2] [(0,.pointer (some ⟨g0,0,none⟩)),(43,.bool ((peek.toNat:Int) == 64))] ?_
  rcases condT hf with ⟨hb80,hf⟩ | ⟨hb80,hf⟩
  ·rw [hb80]
   refine Sg 3 [.op [1,1,0,1,1,0] 6,.co [1,1,0,1,1,1],.bl 2] [(0,.pointer (some ⟨g0,0,none⟩)),(43,.bool true),(46,.pointer (some ⟨g0,5,none⟩))] ?_
   refine st (Lr (some 47) 4 ⟨g0,5,none⟩ (.bool r_.f_more) (H.cellB 0 rfl rfl) ?_)
   refine Sg 3 [.co [1,1,0,1,1,1],.bl 2] [(0,.pointer (some ⟨g0,0,none⟩)),(40,.bool r_.f_more)] ?_
   rcases condT hf with ⟨hb81,hf⟩ | ⟨hb81,hf⟩
   ·rw [hb81]
    refine Sg 3 [.op [1,1,0,1,1,1,0] 1,.bl 2] [(49,.pointer (some ⟨g0,0,none⟩))] ?_
    obtain ⟨attr,h_attr,hf⟩:=bindE hf
    obtain ⟨F82,hse82,hFn82,hcl82⟩:=St.call [blkI g0 [.slice A0_0 r_.f_text.f_b.length c0_0,.int .i64 r_.f_text.f_at,.int .i64 r_.f_text.f_e,.slice A0_3 r_.f_l.length c0_3,.bool r_.f_full,.bool r_.f_more] 56,rowO oApiEntry 44 A0_3 c0_3 r_.f_l] ((H.pull 1 rfl).pull 1 rfl)
    refine st (Cl (some 50) 44 #[.pointer (some ⟨g0,0,none⟩)] Tryd.call44 (manifest_reader_attr_c H.has g0 r_ A0_0 c0_0 (s0_0.mono hsub1) A0_3 c0_3 hse82 hFn82 h_attr) ?_)
    rintro _ w82 ⟨A82_o0_0,c82_o0_0,A82_o0_3,c82_o0_3,mk82,rfl,hS82,hs82_0⟩
    have hsub82:=hS82.sub
    replace H:=hcl82 _ _ _ hS82
    refine Sg 2 [] [] ?_
    refine Er [] [] ?_
    have hret:=(Option.some.inj hf)
    subst hret
    exact ⟨_,rfl,A82_o0_0,c82_o0_0,A82_o0_3,c82_o0_3,mk82,rfl,H,hs82_0⟩
   ·rw [hb81]
    refine Sg 1 [.co [1,1,0,1,1,1,1],.bl 2] [(0,.pointer (some ⟨g0,0,none⟩))] ?_
    obtain ⟨fail1,h_fail1,hf⟩:=bindE hf
    have hst:statB (bodyOf Tryd.f28) [1,1,0,1,1,1,1]=true:=by kernel_rfl
    refine Dw (Has mk1) H ?_
    intro w84 H
    refine Sk hst [0,1,2,3,4,5,6] [0,1,2,3,4,5,6] [(22,.pointer (some ⟨g0,0,none⟩)),(26,.pointer (some ⟨g0,1,none⟩))] ?_
    refine Sd (i:=7) H.has (Lr (some 27) 3 ⟨g0,1,none⟩ (.int .i64 r_.f_text.f_at) (H.cellB 0 rfl rfl) ?_)
    obtain ⟨F85,hse85,hFn85,hcl85⟩:=St.call [blkI g0 [.slice A0_0 r_.f_text.f_b.length c0_0,.int .i64 r_.f_text.f_at,.int .i64 r_.f_text.f_e,.slice A0_3 r_.f_l.length c0_3,.bool r_.f_full,.bool r_.f_more] 56] H
    refine Sd (i:=8) H.has (Cl (some 28) 39 #[.pointer (some ⟨g0,0,none⟩),.int .i64 6,.int .i64 r_.f_text.f_at] Tryd.call39 (manifest_text_fail_c H.has g0 r_ A0_0 c0_0 A0_3 c0_3 6 r_.f_text.f_at hse85 hFn85 h_fail1) ?_)
    rintro _ w85 ⟨mk85,rfl,hS85⟩
    have hsub85:=hS85.sub
    replace H:=hcl85 _ _ _ hS85
    refine Ed (H.has.sub hsub85) ?_
    refine Sg 1 [] [] ?_
    refine Er [] [] ?_
    obtain rfl:({ f_text:=({ f_b:=r_.f_text.f_b,f_at:=fail1.f_text.f_at,f_e:=fail1.f_text.f_e }:TManifestText),f_l:=r_.f_l,f_full:=fail1.f_full,f_more:=fail1.f_more }:TManifestReader)=r:=(Option.some.inj hf)
    exact ⟨_,rfl,A0_0,c0_0,A0_3,c0_3,mk85,rfl,H,(s0_0.mono (hsub1.trans hsub85))⟩
  ·rw [hb80]
   refine Sg 8 [.co [1,1,0,1,1,1,1],.bl 2] [(0,.pointer (some ⟨g0,0,none⟩))] ?_
   obtain ⟨fail2,h_fail2,hf⟩:=bindE hf
   have hst:statB (bodyOf Tryd.f28) [1,1,0,1,1,1,1]=true:=by kernel_rfl
   refine Dw (Has mk1) H ?_
   intro w87 H
   refine Sk hst [0,1,2,3,4,5,6] [0,1,2,3,4,5,6] [(22,.pointer (some ⟨g0,0,none⟩)),(26,.pointer (some ⟨g0,1,none⟩))] ?_
   replace H:St w F m mk1 [blkI g0 [.slice A0_0 r_.f_text.f_b.length c0_0,.int .i64 r_.f_text.f_at,.int .i64 r_.f_text.f_e,.slice A0_3 r_.f_l.length c0_3,.bool r_.f_full,.bool r_.f_more] 56,rowO oApiEntry 44 A0_3 c0_3 r_.f_l] w87:=H
   refine Sd (i:=7) H.has (Lr (some 27) 3 ⟨g0,1,none⟩ (.int .i64 r_.f_text.f_at) (H.cellB 0 rfl rfl) ?_)
   obtain ⟨F88,hse88,hFn88,hcl88⟩:=St.call [blkI g0 [.slice A0_0 r_.f_text.f_b.length c0_0,.int .i64 r_.f_text.f_at,.int .i64 r_.f_text.f_e,.slice A0_3 r_.f_l.length c0_3,.bool r_.f_full,.bool r_.f_more] 56] H
   refine Sd (i:=8) H.has (Cl (some 28) 39 #[.pointer (some ⟨g0,0,none⟩),.int .i64 6,.int .i64 r_.f_text.f_at] Tryd.call39 (manifest_text_fail_c H.has g0 r_ A0_0 c0_0 A0_3 c0_3 6 r_.f_text.f_at hse88 hFn88 h_fail2) ?_)
   rintro _ w88 ⟨mk88,rfl,hS88⟩
   have hsub88:=hS88.sub
   replace H:=hcl88 _ _ _ hS88
   refine Ed (H.has.sub hsub88) ?_
   refine Sg 1 [] [] ?_
   refine Er [] [] ?_
   obtain rfl:({ f_text:=({ f_b:=r_.f_text.f_b,f_at:=fail2.f_text.f_at,f_e:=fail2.f_text.f_e }:TManifestText),f_l:=r_.f_l,f_full:=fail2.f_full,f_more:=fail2.f_more }:TManifestReader)=r:=(Option.some.inj hf)
   exact ⟨_,rfl,A0_0,c0_0,A0_3,c0_3,mk88,rfl,H,(s0_0.mono (hsub1.trans hsub88))⟩
theorem manifest_Parse_c {m:Mem} {w:World} (hm:Has m w) (b:(List UInt8)) (A0_0:Option Addr) (c0_0:Nat) (s0_0:SlI rU8 m A0_0 c0_0 b) {r:((List TApiEntry) × Int × Int)} (hf:manifest_Parse b=some r) :
  Calls Tryd.prog 15 #[.slice A0_0 b.length c0_0] w fun e w' => ∃ v,e=.returned v ∧ ∃ Az_0:Option Addr,∃ cz_0:Nat,∃ m':Mem,v=.tuple #[.slice Az_0 r.1.length cz_0,.int .i64 r.2.1,.int .i64 r.2.2] ∧ St w noF m m' [] w' ∧ SlI rApiEntry m' Az_0 cz_0 r.1:=by
 unfold manifest_Parse at hf
 have H:=St.start0 hm
 refine Fc Tryd.func15 ?_
 refine Sg 13 [.co [1,0,1],.co [1,1]] [(0,.slice A0_0 b.length c0_0),(8,.bool (decide ((b.length:Int) > 1048576)))] ?_
 rcases condT hf with ⟨hb2,hf⟩ | ⟨hb2,hf⟩
 ·rw [hb2]
  have p2:=of_decide_eq_true hb2
  refine Sg 7 [.co [1,0,1,0,1],.co [1,1]] [(2,.slice none 0 0),(3,.int .i64 2),(4,.int .i64 0)] ?_
  refine Rr [2,3,4] [.slice none 0 0,.int .i64 2,.int .i64 0] ?_
  obtain rfl:([],2,0)=r:=(Option.some.inj hf)
  exact ⟨_,rfl,none,0,m,rfl,H,(SlI.nil _ _)⟩
 ·rw [hb2]
  have p2:=of_decide_eq_false hb2
  refine Sg 7 [.op [1,1,0] 3,.co [1,1,1]] [(0,.slice A0_0 b.length c0_0),(11,.agg #[.slice A0_0 b.length c0_0,.int .i64 0,.int .i64 0,.slice none 0 0,.bool false,.bool false])] ?_
  refine st (Nw (some 12) (fun g => .pointer (some ⟨g,0,none⟩)) [.slice A0_0 b.length c0_0,.int .i64 0,.int .i64 0,.slice none 0 0,.bool false,.bool false] 56 H ?_)
  intro g3 w3 H
  refine Sg 3 [.co [1,1,1,0],.co [1,1,1,1]] [(0,.slice A0_0 b.length c0_0),(5,.pointer (some ⟨g3,0,none⟩))] ?_
  obtain ⟨y33,hp33,hf⟩:=bindE hf
  refine joinR 0 (fun (x:(List UInt8) × Int × Int × (List TApiEntry) × Bool × Bool × Option Addr × Nat × Option Addr × Nat × Mem) => [(0,.slice A0_0 b.length c0_0),(5,.pointer (some ⟨g3,0,none⟩))]) (fun (x:(List UInt8) × Int × Int × (List TApiEntry) × Bool × Bool × Option Addr × Nat × Option Addr × Nat × Mem) (wj33:World) => y33=(x.1,x.2.1,x.2.2.1,x.2.2.2.1,x.2.2.2.2.1,x.2.2.2.2.2.1) ∧ St w noF m x.2.2.2.2.2.2.2.2.2.2 [blkI g3 [.slice (x.2.2.2.2.2.2.1) x.1.length (x.2.2.2.2.2.2.2.1),.int .i64 x.2.1,.int .i64 x.2.2.1,.slice (x.2.2.2.2.2.2.2.2.1) x.2.2.2.1.length (x.2.2.2.2.2.2.2.2.2.1),.bool x.2.2.2.2.1,.bool x.2.2.2.2.2.1] 56,rowO oApiEntry 44 (x.2.2.2.2.2.2.2.2.1) (x.2.2.2.2.2.2.2.2.2.1) x.2.2.2.1] wj33 ∧ Sub m x.2.2.2.2.2.2.2.2.2.2 ∧ SlI rU8 x.2.2.2.2.2.2.2.2.2.2 x.2.2.2.2.2.2.1 x.2.2.2.2.2.2.2.1 x.1) (by kernel_rfl) ?_ ?_
  ·refine Sg 1 [.co [1,1,1,0,0],.bl 0,.le 0,.co [1,1,1,1]] [(0,.slice A0_0 b.length c0_0),(5,.pointer (some ⟨g3,0,none⟩))] ?_
   have H:=H.nilO oApiEntry 44
   obtain ⟨nn42,hR42⟩:=loopO_iff.1 hp33
   refine Lp 1 (fun (x:Nat × (List UInt8) × Int × Int × (List TApiEntry) × Bool × Bool × Option Addr × Nat × Option Addr × Nat × Mem) => [(0,.slice A0_0 b.length c0_0),(5,.pointer (some ⟨g3,0,none⟩))]) (fun (x:Nat × (List UInt8) × Int × Int × (List TApiEntry) × Bool × Bool × Option Addr × Nat × Option Addr × Nat × Mem) (wl42:World) => iter (fun s => manifest_Parse_l1 b s.1 s.2.1 s.2.2.1 s.2.2.2.1 s.2.2.2.2.1 s.2.2.2.2.2) x.1 (x.2.1,x.2.2.1,x.2.2.2.1,x.2.2.2.2.1,x.2.2.2.2.2.1,x.2.2.2.2.2.2.1)=some y33 ∧ St w noF m x.2.2.2.2.2.2.2.2.2.2.2 [blkI g3 [.slice (x.2.2.2.2.2.2.2.1) x.2.1.length (x.2.2.2.2.2.2.2.2.1),.int .i64 x.2.2.1,.int .i64 x.2.2.2.1,.slice (x.2.2.2.2.2.2.2.2.2.1) x.2.2.2.2.1.length (x.2.2.2.2.2.2.2.2.2.2.1),.bool x.2.2.2.2.2.1,.bool x.2.2.2.2.2.2.1] 56,rowO oApiEntry 44 (x.2.2.2.2.2.2.2.2.2.1) (x.2.2.2.2.2.2.2.2.2.2.1) x.2.2.2.2.1] wl42 ∧ Sub m x.2.2.2.2.2.2.2.2.2.2.2 ∧ SlI rU8 x.2.2.2.2.2.2.2.2.2.2.2 x.2.2.2.2.2.2.2.1 x.2.2.2.2.2.2.2.2.1 x.2.1) (fun (x:Nat × (List UInt8) × Int × Int × (List TApiEntry) × Bool × Bool × Option Addr × Nat × Option Addr × Nat × Mem) => x.1) (nn42,b,0,0,[],false,false,A0_0,c0_0,none,0,m) ?_ ?_
   ·exact ⟨hR42,(H.pull 1 rfl),(Sub.refl _),s0_0⟩
   rintro ⟨n42,b1,at_,e_,l_,full,more,A_1_43,c_2_43,A_3_43,c_4_43,mm43⟩ wl42 ⟨hR42,H,hsub43,hs43_0⟩
   try dsimp only at hR42
   try dsimp only at H
   try dsimp only at hsub43
   try dsimp only at hs43_0
   obtain ⟨nk42,q42,rfl,hb_42,hnx42,hfin42⟩:=iterE hR42
   replace hb_42:manifest_Parse_l1 b b1 at_ e_ l_ full more=some q42:=hb_42
   unfold manifest_Parse_l1 at hb_42
   refine Sg 7 [.op [1,1,1,0,0,0,0,0] 4,.co [1,1,1,0,0,0,0,1],.co [1,1,1,0,0,0,1],.le 1,.bl 0,.le 0,.co [1,1,1,1]] [(0,.slice A0_0 b.length c0_0),(5,.pointer (some ⟨g3,0,none⟩)),(16,.pointer (some ⟨g3,2,none⟩))] ?_
   refine st (Lr (some 17) 26 ⟨g3,2,none⟩ (.int .i64 e_) (H.cellB 0 rfl rfl) ?_)
   refine Sg 2 [.op [1,1,1,0,0,0,0,0] 7,.co [1,1,1,0,0,0,0,1],.co [1,1,1,0,0,0,1],.le 1,.bl 0,.le 0,.co [1,1,1,1]] [(0,.slice A0_0 b.length c0_0),(5,.pointer (some ⟨g3,0,none⟩)),(19,.bool (e_ == 0))] ?_
   rcases condT hb_42 with ⟨hb44,hb_42⟩ | ⟨hb44,hb_42⟩
   ·rw [hb44]
    refine Sg 4 [.op [1,1,1,0,0,0,0,0] 11,.co [1,1,1,0,0,0,0,1],.co [1,1,1,0,0,0,1],.le 1,.bl 0,.le 0,.co [1,1,1,1]] [(0,.slice A0_0 b.length c0_0),(5,.pointer (some ⟨g3,0,none⟩)),(19,.bool true),(23,.pointer (some ⟨g3,1,none⟩))] ?_
    refine st (Lr (some 24) 3 ⟨g3,1,none⟩ (.int .i64 at_) (H.cellB 0 rfl rfl) ?_)
    refine Sg 5 [.co [1,1,1,0,0,0,0,1],.co [1,1,1,0,0,0,1],.le 1,.bl 0,.le 0,.co [1,1,1,1]] [(0,.slice A0_0 b.length c0_0),(5,.pointer (some ⟨g3,0,none⟩)),(28,.bool (decide (at_ < (b.length:Int))))] ?_
    rcases condT hb_42 with ⟨hb45,hb_42⟩ | ⟨hb45,hb_42⟩
    ·rw [hb45]
     have p45:=of_decide_eq_true hb45
     refine Sg 5 [.op [1,1,1,0,0,0,1,0] 1,.bl 1,.le 1,.bl 0,.le 0,.co [1,1,1,1]] [(0,.slice A0_0 b.length c0_0),(5,.pointer (some ⟨g3,0,none⟩)),(29,.pointer (some ⟨g3,0,none⟩))] ?_
     obtain ⟨next_,h_next_,hb_42⟩:=bindE hb_42
     obtain ⟨F46,hse46,hFn46,hcl46⟩:=St.call [blkI g3 [.slice A_1_43 b1.length c_2_43,.int .i64 at_,.int .i64 e_,.slice A_3_43 l_.length c_4_43,.bool full,.bool more] 56,rowO oApiEntry 44 A_3_43 c_4_43 l_] ((H.pull 1 rfl).pull 1 rfl)
     refine st (Cl (some 30) 28 #[.pointer (some ⟨g3,0,none⟩)] Tryd.call28 (manifest_reader_next_c H.has g3 ({ f_text:=({ f_b:=b1,f_at:=at_,f_e:=e_ }:TManifestText),f_l:=l_,f_full:=full,f_more:=more }:TManifestReader) A_1_43 c_2_43 hs43_0 A_3_43 c_4_43 hse46 hFn46 h_next_) ?_)
     rintro _ w46 ⟨A46_o0_0,c46_o0_0,A46_o0_3,c46_o0_3,mk46,rfl,hS46,hs46_0⟩
     have hsub46:=hS46.sub
     replace H:=hcl46 _ _ _ hS46
     refine Sg 2 [.le 1,.bl 0,.le 0,.co [1,1,1,1]] [(0,.slice A0_0 b.length c0_0),(5,.pointer (some ⟨g3,0,none⟩))] ?_
     refine Lq (nk42,next_.f_text.f_b,next_.f_text.f_at,next_.f_text.f_e,next_.f_l,next_.f_full,next_.f_more,A46_o0_0,c46_o0_0,A46_o0_3,c46_o0_3,mk46) (Nat.lt_succ_self _) ⟨hnx42 _ (Option.some.inj hb_42).symm,H,(hsub43.trans hsub46),hs46_0⟩
    ·rw [hb45]
     have p45:=of_decide_eq_false hb45
     refine Sg 2 [.le 0,.co [1,1,1,1]] [(0,.slice A0_0 b.length c0_0),(5,.pointer (some ⟨g3,0,none⟩))] ?_
     refine leR_up (k':=[]) (by rfl) ?_
     refine Lj (b1,at_,e_,l_,full,more,A_1_43,c_2_43,A_3_43,c_4_43,mm43) ⟨(hfin42 _ (Option.some.inj hb_42).symm).symm,H,hsub43,hs43_0⟩
   ·rw [hb44]
    refine Sg 12 [.le 0,.co [1,1,1,1]] [(0,.slice A0_0 b.length c0_0),(5,.pointer (some ⟨g3,0,none⟩))] ?_
    refine leR_up (k':=[]) (by rfl) ?_
    refine Lj (b1,at_,e_,l_,full,more,A_1_43,c_2_43,A_3_43,c_4_43,mm43) ⟨(hfin42 _ (Option.some.inj hb_42).symm).symm,H,hsub43,hs43_0⟩
  rintro ⟨b1,at_,e_,l_,full,more,A_1_34,c_2_34,A_3_34,c_4_34,mm34⟩ wj33 ⟨hy33,H,hsub34,hs34_0⟩
  try dsimp only at hy33
  try dsimp only at H
  try dsimp only at hsub34
  try dsimp only at hs34_0
  rw [hy33] at hf
  try dsimp only at hf
  refine Sg 7 [.op [1,1,1,1,0,0] 4,.co [1,1,1,1,0,1],.co [1,1,1,1,1]] [(0,.slice A0_0 b.length c0_0),(5,.pointer (some ⟨g3,0,none⟩)),(34,.pointer (some ⟨g3,2,none⟩))] ?_
  replace H:St w noF m mm34 [blkI g3 [.slice A_1_34 b1.length c_2_34,.int .i64 at_,.int .i64 e_,.slice A_3_34 l_.length c_4_34,.bool full,.bool more] 56,rowO oApiEntry 44 A_3_34 c_4_34 l_] wj33:=H
  refine st (Lr (some 35) 26 ⟨g3,2,none⟩ (.int .i64 e_) (H.cellB 0 rfl rfl) ?_)
  refine Sg 2 [.co [1,1,1,1,0,1],.co [1,1,1,1,1]] [(0,.slice A0_0 b.length c0_0),(5,.pointer (some ⟨g3,0,none⟩)),(36,.bool (e_ != 0))] ?_
  rcases condT hf with ⟨hb48,hf⟩ | ⟨hb48,hf⟩
  ·rw [hb48]
   refine Sg 2 [.co [1,1,1,1,0,1,0,0],.co [1,1,1,1,0,1,0,1],.co [1,1,1,1,1]] [(5,.pointer (some ⟨g3,0,none⟩))] ?_
   have hst:statB (bodyOf Tryd.f15) [1,1,1,1,0,1,0,0]=true:=by kernel_rfl
   refine Dw (fun w' => Has mm34 w' ∧ w'.heap[g3]?=some (.cells [.slice A_1_34 b1.length c_2_34,.int .i64 at_,.int .i64 e_,.slice A_3_34 l_.length c_4_34,.bool full,.bool more].toArray 56 (0,0))) H ?_
   intro w49 H
   refine Sk hst [0,1,2,3,5,6,7,8,10] [0,1,2,3,5,6,7,8,10] [(2,.slice none 0 0),(40,.pointer (some ⟨g3,2,none⟩)),(45,.pointer (some ⟨g3,1,none⟩))] ?_
   refine Tk (i:=4) (d:=(some 41)) (s:=vS (Instr.loadAt 26 (.pointer (some ⟨g3,2,none⟩)))) (v:=(.int .i64 e_)) hst (fun w' hw' => ld_run _ _ _ (by kernel_rfl) (blk_cell hw'.2 rfl)) ?_
   refine Sk hst [11] [0,1,2,3,5,6,7,8,10,4,11] [(2,.slice none 0 0),(3,.int .i64 e_),(45,.pointer (some ⟨g3,1,none⟩))] ?_
   refine Sd (i:=9) ⟨H.has,H.blk 0 rfl⟩ (Lr (some 46) 3 ⟨g3,1,none⟩ (.int .i64 at_) (H.cellB 0 rfl rfl) ?_)
   refine Sk hst [12] [0,1,2,3,5,6,7,8,10,4,11,9,12] [(2,.slice none 0 0),(3,.int .i64 e_),(4,.int .i64 at_)] ?_
   refine Ed ⟨H.has,H.blk 0 rfl⟩ ?_
   refine Rr [2,3,4] [.slice none 0 0,.int .i64 e_,.int .i64 at_] ?_
   obtain rfl:([],e_,at_)=r:=(Option.some.inj hf)
   exact ⟨_,rfl,none,0,mm34,rfl,(St.takeN 0 H),(SlI.nil _ _)⟩
  ·rw [hb48]
   refine Sg 7 [.op [1,1,1,1,1,0] 3,.co [1,1,1,1,1,1]] [(0,.slice A0_0 b.length c0_0),(49,.pointer (some ⟨g3,3,none⟩))] ?_
   refine st (Lr (some 50) 22 ⟨g3,3,none⟩ (.slice A_3_34 l_.length c_4_34) (H.cellB 0 rfl rfl) ?_)
   refine Sg 6 [.co [1,1,1,1,1,1]] [(2,.slice A_3_34 l_.length c_4_34),(3,.int .i64 0),(4,.int .i64 (b.length:Int))] ?_
   obtain ⟨mf50,hsub50,hsf50,H⟩:=H.fixO 1 rfl
   refine Rr [2,3,4] [.slice A_3_34 l_.length c_4_34,.int .i64 0,.int .i64 (b.length:Int)] ?_
   obtain rfl:(l_,0,(b.length:Int))=r:=(Option.some.inj hf)
   exact ⟨_,rfl,A_3_34,c_4_34,mf50,rfl,(St.takeN 0 H),hsf50⟩
theorem ref27_Told_c {m:Mem} {w:World} (hm:Has m w) (x_:TApiEntry) (l0_0:x_.Path.length ≤ 9223372036854775807) (A0_7:Option Addr) (c0_7:Nat) (s0_7:SlI rU8 m A0_7 c0_7 x_.Data) (l0_8:x_.Target.length ≤ 9223372036854775807) (A0_10:Option Addr) (c0_10:Nat) (s0_10:SlI rApiAttr m A0_10 c0_10 x_.Attrs) :
  Calls Tryd.prog 29 #[.agg #[.string ⟨x_.Path.toArray⟩,.int .i64 x_.Kind,.int .i64 x_.Mode,.int .i64 x_.Uid,.int .i64 x_.Gid,.int .i64 x_.Time,.int .i64 x_.Size,.slice A0_7 x_.Data.length c0_7,.string ⟨x_.Target.toArray⟩,.int .i64 x_.Dev,.slice A0_10 x_.Attrs.length c0_10]] w fun e w' => ∃ v,e=.returned v ∧ ∃ Az_0_7:Option Addr,∃ cz_0_7:Nat,∃ Az_0_10:Option Addr,∃ cz_0_10:Nat,∃ m':Mem,v=.agg #[.string ⟨((ref27_Told x_).Path).toArray⟩,.int .i64 ((ref27_Told x_).Kind),.int .i64 ((ref27_Told x_).Mode),.int .i64 ((ref27_Told x_).Uid),.int .i64 ((ref27_Told x_).Gid),.int .i64 ((ref27_Told x_).Time),.int .i64 ((ref27_Told x_).Size),.slice Az_0_7 (((ref27_Told x_).Data).length) cz_0_7,.string ⟨((ref27_Told x_).Target).toArray⟩,.int .i64 ((ref27_Told x_).Dev),.slice Az_0_10 (((ref27_Told x_).Attrs).length) cz_0_10] ∧ St w noF m m' [] w' ∧ SlI rU8 m' Az_0_7 cz_0_7 ((ref27_Told x_).Data) ∧ SlI rApiAttr m' Az_0_10 cz_0_10 ((ref27_Told x_).Attrs) ∧ ((ref27_Told x_).Path).length ≤ 9223372036854775807 ∧ ((ref27_Told x_).Target).length ≤ 9223372036854775807:=by
 generalize hf:ref27_Told x_=r
 unfold ref27_Told at hf
 have H:=St.start0 hm
 refine Fc Tryd.func29 ?_
 refine Sg 2 [.op [0] 0,.co [1]] [(0,.agg #[.string ⟨x_.Path.toArray⟩,.int .i64 x_.Kind,.int .i64 x_.Mode,.int .i64 x_.Uid,.int .i64 x_.Gid,.int .i64 x_.Time,.int .i64 x_.Size,.slice A0_7 x_.Data.length c0_7,.string ⟨x_.Target.toArray⟩,.int .i64 x_.Dev,.slice A0_10 x_.Attrs.length c0_10])] ?_
 refine st (Nw (some 1) (fun g => .pointer (some ⟨g,0,none⟩)) [.string ⟨x_.Path.toArray⟩,.int .i64 x_.Kind,.int .i64 x_.Mode,.int .i64 x_.Uid,.int .i64 x_.Gid,.int .i64 x_.Time,.int .i64 x_.Size,.slice A0_7 x_.Data.length c0_7,.string ⟨x_.Target.toArray⟩,.int .i64 x_.Dev,.slice A0_10 x_.Attrs.length c0_10] 44 H ?_)
 intro g1 w1 H
 refine st (Nw (some 2) (fun g => .pointer (some ⟨g,0,none⟩)) [.string ⟨([]:List UInt8).toArray⟩,.int .i64 0,.int .i64 0,.int .i64 0,.int .i64 0,.int .i64 0,.int .i64 0,.slice none 0 0,.string ⟨([]:List UInt8).toArray⟩,.int .i64 0,.slice none 0 0] 44 H ?_)
 intro g2 w2 H
 refine Sg 5 [.op [1,0,0] 1,.co [1,0,1],.co [1,1]] [(1,.pointer (some ⟨g1,0,none⟩)),(2,.pointer (some ⟨g2,0,none⟩)),(4,.pointer (some ⟨g1,1,none⟩))] ?_
 refine st (Lr (some 5) 3 ⟨g1,1,none⟩ (.int .i64 x_.Kind) (H.cellB 1 rfl rfl) ?_)
 refine Sg 2 [.co [1,0,1],.co [1,1]] [(1,.pointer (some ⟨g1,0,none⟩)),(2,.pointer (some ⟨g2,0,none⟩)),(6,.bool (x_.Kind == 6))] ?_
 rcases condT hf with ⟨hb5,hf⟩ | ⟨hb5,hf⟩
 ·rw [hb5]
  refine Sg 4 [.op [1,0,1,0,0] 1,.co [1,0,1,0,1],.co [1,1]] [(1,.pointer (some ⟨g1,0,none⟩)),(2,.pointer (some ⟨g2,0,none⟩)),(7,.pointer (some ⟨g1,0,none⟩))] ?_
  refine st (Lr (some 8) 9 ⟨g1,0,none⟩ (.string ⟨x_.Path.toArray⟩) (H.cellB 1 rfl rfl) ?_)
  refine Sg 1 [.op [1,0,1,0,0] 3,.co [1,0,1,0,1],.co [1,1]] [(2,.pointer (some ⟨g2,0,none⟩)),(8,.string ⟨x_.Path.toArray⟩),(9,.pointer (some ⟨g1,8,none⟩))] ?_
  refine st (Lr (some 10) 9 ⟨g1,8,none⟩ (.string ⟨x_.Target.toArray⟩) (H.cellB 1 rfl rfl) ?_)
  refine Sg 1 [.op [1,0,1,0,0] 5,.co [1,0,1,0,1],.co [1,1]] [(2,.pointer (some ⟨g2,0,none⟩)),(11,.agg #[.string ⟨x_.Path.toArray⟩,.int .i64 6,.int .i64 0,.int .i64 0,.int .i64 0,.int .i64 0,.int .i64 0,.slice none 0 0,.string ⟨x_.Target.toArray⟩,.int .i64 0,.slice none 0 0])] ?_
  refine st (Sa none 44 0 g2 0 [.string ⟨x_.Path.toArray⟩,.int .i64 6,.int .i64 0,.int .i64 0,.int .i64 0,.int .i64 0,.int .i64 0,.slice none 0 0,.string ⟨x_.Target.toArray⟩,.int .i64 0,.slice none 0 0] [.string ⟨x_.Path.toArray⟩,.int .i64 6,.int .i64 0,.int .i64 0,.int .i64 0,.int .i64 0,.int .i64 0,.slice none 0 0,.string ⟨x_.Target.toArray⟩,.int .i64 0,.slice none 0 0] H rfl (by rfl) (of_decide_eq_true rfl) rfl ?_)
  intro w6 H
  refine Sg 1 [.co [1,0,1,0,1],.co [1,1]] [(2,.pointer (some ⟨g2,0,none⟩))] ?_
  refine retC [.agg #[.string ⟨x_.Path.toArray⟩,.int .i64 6,.int .i64 0,.int .i64 0,.int .i64 0,.int .i64 0,.int .i64 0,.slice none 0 0,.string ⟨x_.Target.toArray⟩,.int .i64 0,.slice none 0 0]] (by kernel_rfl) ⟨⟨_,rfl,ldv_agg 44 ⟨g2,0,none⟩ [.string ⟨x_.Path.toArray⟩,.int .i64 6,.int .i64 0,.int .i64 0,.int .i64 0,.int .i64 0,.int .i64 0,.slice none 0 0,.string ⟨x_.Target.toArray⟩,.int .i64 0,.slice none 0 0] (by kernel_rfl) (H.cellsB 0 rfl (by rfl))⟩,trivial⟩ ?_
  obtain rfl:({ Path:=x_.Path,Kind:=6,Mode:=0,Uid:=0,Gid:=0,Time:=0,Size:=0,Data:=[],Target:=x_.Target,Dev:=0,Attrs:=[] }:TApiEntry)=r:=hf
  exact ⟨_,rfl,none,0,none,0,m,rfl,(St.takeN 0 H),(SlI.nil _ _),(SlI.nil _ _),l0_0,l0_8⟩
 ·rw [hb5]
  refine Sg 5 [.op [1,1,0] 1,.co [1,1,1]] [(1,.pointer (some ⟨g1,0,none⟩)),(2,.pointer (some ⟨g2,0,none⟩)),(12,.pointer (some ⟨g1,0,none⟩))] ?_
  replace H:St w noF m m [blkI g2 [.string ⟨([]:List UInt8).toArray⟩,.int .i64 0,.int .i64 0,.int .i64 0,.int .i64 0,.int .i64 0,.int .i64 0,.slice none 0 0,.string ⟨([]:List UInt8).toArray⟩,.int .i64 0,.slice none 0 0] 44,blkI g1 [.string ⟨x_.Path.toArray⟩,.int .i64 x_.Kind,.int .i64 x_.Mode,.int .i64 x_.Uid,.int .i64 x_.Gid,.int .i64 x_.Time,.int .i64 x_.Size,.slice A0_7 x_.Data.length c0_7,.string ⟨x_.Target.toArray⟩,.int .i64 x_.Dev,.slice A0_10 x_.Attrs.length c0_10] 44] w2:=H
  refine st (Lr (some 13) 9 ⟨g1,0,none⟩ (.string ⟨x_.Path.toArray⟩) (H.cellB 1 rfl rfl) ?_)
  refine Sg 1 [.op [1,1,0] 3,.co [1,1,1]] [(1,.pointer (some ⟨g1,0,none⟩)),(2,.pointer (some ⟨g2,0,none⟩)),(13,.string ⟨x_.Path.toArray⟩),(14,.pointer (some ⟨g1,1,none⟩))] ?_
  refine st (Lr (some 15) 3 ⟨g1,1,none⟩ (.int .i64 x_.Kind) (H.cellB 1 rfl rfl) ?_)
  refine Sg 1 [.op [1,1,0] 5,.co [1,1,1]] [(1,.pointer (some ⟨g1,0,none⟩)),(2,.pointer (some ⟨g2,0,none⟩)),(13,.string ⟨x_.Path.toArray⟩),(15,.int .i64 x_.Kind),(16,.pointer (some ⟨g1,2,none⟩))] ?_
  refine st (Lr (some 17) 3 ⟨g1,2,none⟩ (.int .i64 x_.Mode) (H.cellB 1 rfl rfl) ?_)
  refine Sg 1 [.op [1,1,0] 7,.co [1,1,1]] [(1,.pointer (some ⟨g1,0,none⟩)),(2,.pointer (some ⟨g2,0,none⟩)),(13,.string ⟨x_.Path.toArray⟩),(15,.int .i64 x_.Kind),(17,.int .i64 x_.Mode),(18,.pointer (some ⟨g1,3,none⟩))] ?_
  refine st (Lr (some 19) 3 ⟨g1,3,none⟩ (.int .i64 x_.Uid) (H.cellB 1 rfl rfl) ?_)
  refine Sg 1 [.op [1,1,0] 9,.co [1,1,1]] [(1,.pointer (some ⟨g1,0,none⟩)),(2,.pointer (some ⟨g2,0,none⟩)),(13,.string ⟨x_.Path.toArray⟩),(15,.int .i64 x_.Kind),(17,.int .i64 x_.Mode),(19,.int .i64 x_.Uid),(20,.pointer (some ⟨g1,4,none⟩))] ?_
  refine st (Lr (some 21) 3 ⟨g1,4,none⟩ (.int .i64 x_.Gid) (H.cellB 1 rfl rfl) ?_)
  refine Sg 1 [.op [1,1,0] 11,.co [1,1,1]] [(1,.pointer (some ⟨g1,0,none⟩)),(2,.pointer (some ⟨g2,0,none⟩)),(13,.string ⟨x_.Path.toArray⟩),(15,.int .i64 x_.Kind),(17,.int .i64 x_.Mode),(19,.int .i64 x_.Uid),(21,.int .i64 x_.Gid),(22,.pointer (some ⟨g1,5,none⟩))] ?_
  refine st (Lr (some 23) 3 ⟨g1,5,none⟩ (.int .i64 x_.Time) (H.cellB 1 rfl rfl) ?_)
  refine Sg 1 [.op [1,1,0] 13,.co [1,1,1]] [(1,.pointer (some ⟨g1,0,none⟩)),(2,.pointer (some ⟨g2,0,none⟩)),(13,.string ⟨x_.Path.toArray⟩),(15,.int .i64 x_.Kind),(17,.int .i64 x_.Mode),(19,.int .i64 x_.Uid),(21,.int .i64 x_.Gid),(23,.int .i64 x_.Time),(24,.pointer (some ⟨g1,10,none⟩))] ?_
  refine st (Lr (some 25) 42 ⟨g1,10,none⟩ (.slice A0_10 x_.Attrs.length c0_10) (H.cellB 1 rfl rfl) ?_)
  refine Sg 1 [.op [1,1,0] 15,.co [1,1,1]] [(1,.pointer (some ⟨g1,0,none⟩)),(2,.pointer (some ⟨g2,0,none⟩)),(26,.agg #[.string ⟨x_.Path.toArray⟩,.int .i64 x_.Kind,.int .i64 x_.Mode,.int .i64 x_.Uid,.int .i64 x_.Gid,.int .i64 x_.Time,.int .i64 0,.slice none 0 0,.string ⟨([]:List UInt8).toArray⟩,.int .i64 0,.slice A0_10 x_.Attrs.length c0_10])] ?_
  refine st (Nw (some 3) (fun g => .pointer (some ⟨g,0,none⟩)) [.string ⟨([]:List UInt8).toArray⟩,.int .i64 0,.int .i64 0,.int .i64 0,.int .i64 0,.int .i64 0,.int .i64 0,.slice none 0 0,.string ⟨([]:List UInt8).toArray⟩,.int .i64 0,.slice none 0 0] 44 H ?_)
  intro g7 w7 H
  refine st (Sa none 44 0 g7 0 [.string ⟨x_.Path.toArray⟩,.int .i64 x_.Kind,.int .i64 x_.Mode,.int .i64 x_.Uid,.int .i64 x_.Gid,.int .i64 x_.Time,.int .i64 0,.slice none 0 0,.string ⟨([]:List UInt8).toArray⟩,.int .i64 0,.slice A0_10 x_.Attrs.length c0_10] [.string ⟨x_.Path.toArray⟩,.int .i64 x_.Kind,.int .i64 x_.Mode,.int .i64 x_.Uid,.int .i64 x_.Gid,.int .i64 x_.Time,.int .i64 0,.slice none 0 0,.string ⟨([]:List UInt8).toArray⟩,.int .i64 0,.slice A0_10 x_.Attrs.length c0_10] H rfl (by rfl) (of_decide_eq_true rfl) rfl ?_)
  intro w9 H
  refine Sg 5 [.op [1,1,1,0,0] 1,.co [1,1,1,0,1],.co [1,1,1,1]] [(1,.pointer (some ⟨g1,0,none⟩)),(2,.pointer (some ⟨g2,0,none⟩)),(3,.pointer (some ⟨g7,0,none⟩)),(27,.pointer (some ⟨g1,1,none⟩))] ?_
  refine st (Lr (some 28) 3 ⟨g1,1,none⟩ (.int .i64 x_.Kind) (H.cellB 2 rfl rfl) ?_)
  refine Sg 2 [.co [1,1,1,0,1],.co [1,1,1,1]] [(1,.pointer (some ⟨g1,0,none⟩)),(2,.pointer (some ⟨g2,0,none⟩)),(3,.pointer (some ⟨g7,0,none⟩)),(29,.bool (x_.Kind == 1))] ?_
  rcases condT hf with ⟨hb21,hf⟩ | ⟨hb21,hf⟩
  ·rw [hb21]
   refine Sg 1 [.co [1,1,1,0,1,0],.co [1,1,1,1]] [(1,.pointer (some ⟨g1,0,none⟩)),(2,.pointer (some ⟨g2,0,none⟩)),(3,.pointer (some ⟨g7,0,none⟩))] ?_
   have hst:statB (bodyOf Tryd.f29) [1,1,1,0,1,0]=true:=by kernel_rfl
   refine Dw (fun w' => Has m w' ∧ w'.heap[g2]?=some (.cells [.string ⟨([]:List UInt8).toArray⟩,.int .i64 0,.int .i64 0,.int .i64 0,.int .i64 0,.int .i64 0,.int .i64 0,.slice none 0 0,.string ⟨([]:List UInt8).toArray⟩,.int .i64 0,.slice none 0 0].toArray 44 (0,0)) ∧ w'.heap[g1]?=some (.cells [.string ⟨x_.Path.toArray⟩,.int .i64 x_.Kind,.int .i64 x_.Mode,.int .i64 x_.Uid,.int .i64 x_.Gid,.int .i64 x_.Time,.int .i64 x_.Size,.slice A0_7 x_.Data.length c0_7,.string ⟨x_.Target.toArray⟩,.int .i64 x_.Dev,.slice A0_10 x_.Attrs.length c0_10].toArray 44 (0,0))) H ?_
   intro w24 H
   refine Sk hst [0,2] [0,2] [(1,.pointer (some ⟨g1,0,none⟩)),(2,.pointer (some ⟨g2,0,none⟩)),(3,.pointer (some ⟨g7,0,none⟩)),(30,.pointer (some ⟨g1,6,none⟩)),(32,.pointer (some ⟨g1,7,none⟩))] ?_
   refine Tk (i:=1) (d:=(some 31)) (s:=vS (Instr.loadAt 3 (.pointer (some ⟨g1,6,none⟩)))) (v:=(.int .i64 x_.Size)) hst (fun w' hw' => ld_run _ _ _ (by kernel_rfl) (blk_cell hw'.2.2 rfl)) ?_
   refine Sk hst [4] [0,2,1,4] [(1,.pointer (some ⟨g1,0,none⟩)),(2,.pointer (some ⟨g2,0,none⟩)),(3,.pointer (some ⟨g7,0,none⟩)),(31,.int .i64 x_.Size),(32,.pointer (some ⟨g1,7,none⟩)),(34,.pointer (some ⟨g7,6,none⟩))] ?_
   refine Tk (i:=3) (d:=(some 33)) (s:=vS (Instr.loadAt 25 (.pointer (some ⟨g1,7,none⟩)))) (v:=(.slice A0_7 x_.Data.length c0_7)) hst (fun w' hw' => ld_run _ _ _ (by kernel_rfl) (blk_cell hw'.2.2 rfl)) ?_
   refine Sd (i:=5) ⟨H.has,H.blk 1 rfl,H.blk 2 rfl⟩ (Ss none 3 0 g7 6 (.int .i64 x_.Size) H rfl rfl (of_decide_eq_true rfl) ?_)
   intro w25 H
   refine Sk hst [6] [0,2,1,4,3,5,6] [(1,.pointer (some ⟨g1,0,none⟩)),(2,.pointer (some ⟨g2,0,none⟩)),(3,.pointer (some ⟨g7,0,none⟩)),(33,.slice A0_7 x_.Data.length c0_7),(35,.pointer (some ⟨g7,7,none⟩))] ?_
   replace H:St w noF m m [blkI g7 [.string ⟨x_.Path.toArray⟩,.int .i64 x_.Kind,.int .i64 x_.Mode,.int .i64 x_.Uid,.int .i64 x_.Gid,.int .i64 x_.Time,.int .i64 x_.Size,.slice none 0 0,.string ⟨([]:List UInt8).toArray⟩,.int .i64 0,.slice A0_10 x_.Attrs.length c0_10] 44,blkI g2 [.string ⟨([]:List UInt8).toArray⟩,.int .i64 0,.int .i64 0,.int .i64 0,.int .i64 0,.int .i64 0,.int .i64 0,.slice none 0 0,.string ⟨([]:List UInt8).toArray⟩,.int .i64 0,.slice none 0 0] 44,blkI g1 [.string ⟨x_.Path.toArray⟩,.int .i64 x_.Kind,.int .i64 x_.Mode,.int .i64 x_.Uid,.int .i64 x_.Gid,.int .i64 x_.Time,.int .i64 x_.Size,.slice A0_7 x_.Data.length c0_7,.string ⟨x_.Target.toArray⟩,.int .i64 x_.Dev,.slice A0_10 x_.Attrs.length c0_10] 44] w25:=H
   refine Sd (i:=7) ⟨H.has,H.blk 1 rfl,H.blk 2 rfl⟩ (Ss none 25 0 g7 7 (.slice A0_7 x_.Data.length c0_7) H rfl rfl (of_decide_eq_true rfl) ?_)
   intro w26 H
   refine Ed ⟨H.has,H.blk 1 rfl,H.blk 2 rfl⟩ ?_
   refine Sg 4 [.op [1,1,1,1,0,0] 1,.co [1,1,1,1,0,1],.co [1,1,1,1,1]] [(1,.pointer (some ⟨g1,0,none⟩)),(2,.pointer (some ⟨g2,0,none⟩)),(3,.pointer (some ⟨g7,0,none⟩)),(36,.pointer (some ⟨g1,1,none⟩))] ?_
   refine st (Lr (some 37) 3 ⟨g1,1,none⟩ (.int .i64 x_.Kind) (H.cellB 2 rfl rfl) ?_)
   refine Sg 2 [.co [1,1,1,1,0,1],.co [1,1,1,1,1]] [(1,.pointer (some ⟨g1,0,none⟩)),(2,.pointer (some ⟨g2,0,none⟩)),(3,.pointer (some ⟨g7,0,none⟩)),(38,.bool (x_.Kind == 3))] ?_
   rw [show (x_.Kind == 3)=false from by rw [show x_.Kind=1 from eq_of_beq hb21]; rfl]
   refine Sg 6 [.op [1,1,1,1,1,0,0] 1,.co [1,1,1,1,1,0,1],.co [1,1,1,1,1,1]] [(1,.pointer (some ⟨g1,0,none⟩)),(2,.pointer (some ⟨g2,0,none⟩)),(3,.pointer (some ⟨g7,0,none⟩)),(42,.pointer (some ⟨g1,1,none⟩))] ?_
   refine st (Lr (some 43) 3 ⟨g1,1,none⟩ (.int .i64 x_.Kind) (H.cellB 2 rfl rfl) ?_)
   refine Sg 2 [.co [1,1,1,1,1,0,1],.co [1,1,1,1,1,1]] [(1,.pointer (some ⟨g1,0,none⟩)),(2,.pointer (some ⟨g2,0,none⟩)),(3,.pointer (some ⟨g7,0,none⟩)),(44,.bool (decide (x_.Kind > 3)))] ?_
   rcases condT hf with ⟨hb27,hf⟩ | ⟨hb27,hf⟩
   ·rw [hb27]
    have p27:=of_decide_eq_true hb27
    refine Sg 3 [.op [1,1,1,1,1,0,1,0] 1,.co [1,1,1,1,1,1]] [(2,.pointer (some ⟨g2,0,none⟩)),(3,.pointer (some ⟨g7,0,none⟩)),(45,.pointer (some ⟨g1,9,none⟩))] ?_
    refine st (Lr (some 46) 3 ⟨g1,9,none⟩ (.int .i64 x_.Dev) (H.cellB 2 rfl rfl) ?_)
    refine Sg 1 [.op [1,1,1,1,1,0,1,0] 3,.co [1,1,1,1,1,1]] [(2,.pointer (some ⟨g2,0,none⟩)),(3,.pointer (some ⟨g7,0,none⟩)),(46,.int .i64 x_.Dev),(47,.pointer (some ⟨g7,9,none⟩))] ?_
    refine st (Ss none 3 0 g7 9 (.int .i64 x_.Dev) H rfl rfl (of_decide_eq_true rfl) ?_)
    intro w28 H
    refine Sg 3 [.op [1,1,1,1,1,1,0] 0,.co [1,1,1,1,1,1,1]] [(2,.pointer (some ⟨g2,0,none⟩)),(3,.pointer (some ⟨g7,0,none⟩))] ?_
    refine st (La (some 48) 44 ⟨g7,0,none⟩ [.string ⟨x_.Path.toArray⟩,.int .i64 x_.Kind,.int .i64 x_.Mode,.int .i64 x_.Uid,.int .i64 x_.Gid,.int .i64 x_.Time,.int .i64 x_.Size,.slice A0_7 x_.Data.length c0_7,.string ⟨([]:List UInt8).toArray⟩,.int .i64 x_.Dev,.slice A0_10 x_.Attrs.length c0_10] (H.cellsB 0 rfl (by rfl)) ?_)
    refine st (Sa none 44 1 g2 0 [.string ⟨x_.Path.toArray⟩,.int .i64 x_.Kind,.int .i64 x_.Mode,.int .i64 x_.Uid,.int .i64 x_.Gid,.int .i64 x_.Time,.int .i64 x_.Size,.slice A0_7 x_.Data.length c0_7,.string ⟨([]:List UInt8).toArray⟩,.int .i64 x_.Dev,.slice A0_10 x_.Attrs.length c0_10] [.string ⟨x_.Path.toArray⟩,.int .i64 x_.Kind,.int .i64 x_.Mode,.int .i64 x_.Uid,.int .i64 x_.Gid,.int .i64 x_.Time,.int .i64 x_.Size,.slice A0_7 x_.Data.length c0_7,.string ⟨([]:List UInt8).toArray⟩,.int .i64 x_.Dev,.slice A0_10 x_.Attrs.length c0_10] H rfl (by rfl) (of_decide_eq_true rfl) rfl ?_)
    intro w29 H
    refine Sg 1 [.co [1,1,1,1,1,1,1]] [(2,.pointer (some ⟨g2,0,none⟩))] ?_
    refine retC [.agg #[.string ⟨x_.Path.toArray⟩,.int .i64 x_.Kind,.int .i64 x_.Mode,.int .i64 x_.Uid,.int .i64 x_.Gid,.int .i64 x_.Time,.int .i64 x_.Size,.slice A0_7 x_.Data.length c0_7,.string ⟨([]:List UInt8).toArray⟩,.int .i64 x_.Dev,.slice A0_10 x_.Attrs.length c0_10]] (by kernel_rfl) ⟨⟨_,rfl,ldv_agg 44 ⟨g2,0,none⟩ [.string ⟨x_.Path.toArray⟩,.int .i64 x_.Kind,.int .i64 x_.Mode,.int .i64 x_.Uid,.int .i64 x_.Gid,.int .i64 x_.Time,.int .i64 x_.Size,.slice A0_7 x_.Data.length c0_7,.string ⟨([]:List UInt8).toArray⟩,.int .i64 x_.Dev,.slice A0_10 x_.Attrs.length c0_10] (by kernel_rfl) (H.cellsB 1 rfl (by rfl))⟩,trivial⟩ ?_
    obtain rfl:({ Path:=x_.Path,Kind:=x_.Kind,Mode:=x_.Mode,Uid:=x_.Uid,Gid:=x_.Gid,Time:=x_.Time,Size:=x_.Size,Data:=x_.Data,Target:=([]:List UInt8),Dev:=x_.Dev,Attrs:=x_.Attrs }:TApiEntry)=r:=hf
    exact ⟨_,rfl,A0_7,c0_7,A0_10,c0_10,m,rfl,(St.takeN 0 H),s0_7,s0_10,l0_0,(Nat.le_of_ble_eq_true rfl)⟩
   ·rw [hb27]
    have p27:=of_decide_eq_false hb27
    refine Sg 4 [.op [1,1,1,1,1,1,0] 0,.co [1,1,1,1,1,1,1]] [(2,.pointer (some ⟨g2,0,none⟩)),(3,.pointer (some ⟨g7,0,none⟩))] ?_
    refine st (La (some 48) 44 ⟨g7,0,none⟩ [.string ⟨x_.Path.toArray⟩,.int .i64 x_.Kind,.int .i64 x_.Mode,.int .i64 x_.Uid,.int .i64 x_.Gid,.int .i64 x_.Time,.int .i64 x_.Size,.slice A0_7 x_.Data.length c0_7,.string ⟨([]:List UInt8).toArray⟩,.int .i64 0,.slice A0_10 x_.Attrs.length c0_10] (H.cellsB 0 rfl (by rfl)) ?_)
    refine st (Sa none 44 1 g2 0 [.string ⟨x_.Path.toArray⟩,.int .i64 x_.Kind,.int .i64 x_.Mode,.int .i64 x_.Uid,.int .i64 x_.Gid,.int .i64 x_.Time,.int .i64 x_.Size,.slice A0_7 x_.Data.length c0_7,.string ⟨([]:List UInt8).toArray⟩,.int .i64 0,.slice A0_10 x_.Attrs.length c0_10] [.string ⟨x_.Path.toArray⟩,.int .i64 x_.Kind,.int .i64 x_.Mode,.int .i64 x_.Uid,.int .i64 x_.Gid,.int .i64 x_.Time,.int .i64 x_.Size,.slice A0_7 x_.Data.length c0_7,.string ⟨([]:List UInt8).toArray⟩,.int .i64 0,.slice A0_10 x_.Attrs.length c0_10] H rfl (by rfl) (of_decide_eq_true rfl) rfl ?_)
    intro w30 H
    refine Sg 1 [.co [1,1,1,1,1,1,1]] [(2,.pointer (some ⟨g2,0,none⟩))] ?_
    refine retC [.agg #[.string ⟨x_.Path.toArray⟩,.int .i64 x_.Kind,.int .i64 x_.Mode,.int .i64 x_.Uid,.int .i64 x_.Gid,.int .i64 x_.Time,.int .i64 x_.Size,.slice A0_7 x_.Data.length c0_7,.string ⟨([]:List UInt8).toArray⟩,.int .i64 0,.slice A0_10 x_.Attrs.length c0_10]] (by kernel_rfl) ⟨⟨_,rfl,ldv_agg 44 ⟨g2,0,none⟩ [.string ⟨x_.Path.toArray⟩,.int .i64 x_.Kind,.int .i64 x_.Mode,.int .i64 x_.Uid,.int .i64 x_.Gid,.int .i64 x_.Time,.int .i64 x_.Size,.slice A0_7 x_.Data.length c0_7,.string ⟨([]:List UInt8).toArray⟩,.int .i64 0,.slice A0_10 x_.Attrs.length c0_10] (by kernel_rfl) (H.cellsB 1 rfl (by rfl))⟩,trivial⟩ ?_
    obtain rfl:({ Path:=x_.Path,Kind:=x_.Kind,Mode:=x_.Mode,Uid:=x_.Uid,Gid:=x_.Gid,Time:=x_.Time,Size:=x_.Size,Data:=x_.Data,Target:=([]:List UInt8),Dev:=0,Attrs:=x_.Attrs }:TApiEntry)=r:=hf
    exact ⟨_,rfl,A0_7,c0_7,A0_10,c0_10,m,rfl,(St.takeN 0 H),s0_7,s0_10,l0_0,(Nat.le_of_ble_eq_true rfl)⟩
  ·rw [hb21]
   refine Sg 6 [.op [1,1,1,1,0,0] 1,.co [1,1,1,1,0,1],.co [1,1,1,1,1]] [(1,.pointer (some ⟨g1,0,none⟩)),(2,.pointer (some ⟨g2,0,none⟩)),(3,.pointer (some ⟨g7,0,none⟩)),(36,.pointer (some ⟨g1,1,none⟩))] ?_
   replace H:St w noF m m [blkI g7 [.string ⟨x_.Path.toArray⟩,.int .i64 x_.Kind,.int .i64 x_.Mode,.int .i64 x_.Uid,.int .i64 x_.Gid,.int .i64 x_.Time,.int .i64 0,.slice none 0 0,.string ⟨([]:List UInt8).toArray⟩,.int .i64 0,.slice A0_10 x_.Attrs.length c0_10] 44,blkI g2 [.string ⟨([]:List UInt8).toArray⟩,.int .i64 0,.int .i64 0,.int .i64 0,.int .i64 0,.int .i64 0,.int .i64 0,.slice none 0 0,.string ⟨([]:List UInt8).toArray⟩,.int .i64 0,.slice none 0 0] 44,blkI g1 [.string ⟨x_.Path.toArray⟩,.int .i64 x_.Kind,.int .i64 x_.Mode,.int .i64 x_.Uid,.int .i64 x_.Gid,.int .i64 x_.Time,.int .i64 x_.Size,.slice A0_7 x_.Data.length c0_7,.string ⟨x_.Target.toArray⟩,.int .i64 x_.Dev,.slice A0_10 x_.Attrs.length c0_10] 44] w9:=H
   refine st (Lr (some 37) 3 ⟨g1,1,none⟩ (.int .i64 x_.Kind) (H.cellB 2 rfl rfl) ?_)
   refine Sg 2 [.co [1,1,1,1,0,1],.co [1,1,1,1,1]] [(1,.pointer (some ⟨g1,0,none⟩)),(2,.pointer (some ⟨g2,0,none⟩)),(3,.pointer (some ⟨g7,0,none⟩)),(38,.bool (x_.Kind == 3))] ?_
   rcases condT hf with ⟨hb38,hf⟩ | ⟨hb38,hf⟩
   ·rw [hb38]
    refine Sg 3 [.op [1,1,1,1,0,1,0] 1,.co [1,1,1,1,1]] [(1,.pointer (some ⟨g1,0,none⟩)),(2,.pointer (some ⟨g2,0,none⟩)),(3,.pointer (some ⟨g7,0,none⟩)),(39,.pointer (some ⟨g1,8,none⟩))] ?_
    replace H:St w noF m m [blkI g7 [.string ⟨x_.Path.toArray⟩,.int .i64 x_.Kind,.int .i64 x_.Mode,.int .i64 x_.Uid,.int .i64 x_.Gid,.int .i64 x_.Time,.int .i64 0,.slice none 0 0,.string ⟨([]:List UInt8).toArray⟩,.int .i64 0,.slice A0_10 x_.Attrs.length c0_10] 44,blkI g2 [.string ⟨([]:List UInt8).toArray⟩,.int .i64 0,.int .i64 0,.int .i64 0,.int .i64 0,.int .i64 0,.int .i64 0,.slice none 0 0,.string ⟨([]:List UInt8).toArray⟩,.int .i64 0,.slice none 0 0] 44,blkI g1 [.string ⟨x_.Path.toArray⟩,.int .i64 x_.Kind,.int .i64 x_.Mode,.int .i64 x_.Uid,.int .i64 x_.Gid,.int .i64 x_.Time,.int .i64 x_.Size,.slice A0_7 x_.Data.length c0_7,.string ⟨x_.Target.toArray⟩,.int .i64 x_.Dev,.slice A0_10 x_.Attrs.length c0_10] 44] w9:=H
    refine st (Lr (some 40) 9 ⟨g1,8,none⟩ (.string ⟨x_.Target.toArray⟩) (H.cellB 2 rfl rfl) ?_)
    refine Sg 1 [.op [1,1,1,1,0,1,0] 3,.co [1,1,1,1,1]] [(1,.pointer (some ⟨g1,0,none⟩)),(2,.pointer (some ⟨g2,0,none⟩)),(3,.pointer (some ⟨g7,0,none⟩)),(40,.string ⟨x_.Target.toArray⟩),(41,.pointer (some ⟨g7,8,none⟩))] ?_
    refine st (Ss none 9 0 g7 8 (.string ⟨x_.Target.toArray⟩) H rfl rfl (of_decide_eq_true rfl) ?_)
    intro w39 H
    refine Sg 5 [.op [1,1,1,1,1,0,0] 1,.co [1,1,1,1,1,0,1],.co [1,1,1,1,1,1]] [(1,.pointer (some ⟨g1,0,none⟩)),(2,.pointer (some ⟨g2,0,none⟩)),(3,.pointer (some ⟨g7,0,none⟩)),(42,.pointer (some ⟨g1,1,none⟩))] ?_
    refine st (Lr (some 43) 3 ⟨g1,1,none⟩ (.int .i64 x_.Kind) (H.cellB 2 rfl rfl) ?_)
    refine Sg 2 [.co [1,1,1,1,1,0,1],.co [1,1,1,1,1,1]] [(1,.pointer (some ⟨g1,0,none⟩)),(2,.pointer (some ⟨g2,0,none⟩)),(3,.pointer (some ⟨g7,0,none⟩)),(44,.bool (decide (x_.Kind > 3)))] ?_
    rcases condT hf with ⟨hb40,hf⟩ | ⟨hb40,hf⟩
    ·rw [hb40]
     have p40:=of_decide_eq_true hb40
     refine Sg 3 [.op [1,1,1,1,1,0,1,0] 1,.co [1,1,1,1,1,1]] [(2,.pointer (some ⟨g2,0,none⟩)),(3,.pointer (some ⟨g7,0,none⟩)),(45,.pointer (some ⟨g1,9,none⟩))] ?_
     refine st (Lr (some 46) 3 ⟨g1,9,none⟩ (.int .i64 x_.Dev) (H.cellB 2 rfl rfl) ?_)
     refine Sg 1 [.op [1,1,1,1,1,0,1,0] 3,.co [1,1,1,1,1,1]] [(2,.pointer (some ⟨g2,0,none⟩)),(3,.pointer (some ⟨g7,0,none⟩)),(46,.int .i64 x_.Dev),(47,.pointer (some ⟨g7,9,none⟩))] ?_
     refine st (Ss none 3 0 g7 9 (.int .i64 x_.Dev) H rfl rfl (of_decide_eq_true rfl) ?_)
     intro w41 H
     refine Sg 3 [.op [1,1,1,1,1,1,0] 0,.co [1,1,1,1,1,1,1]] [(2,.pointer (some ⟨g2,0,none⟩)),(3,.pointer (some ⟨g7,0,none⟩))] ?_
     refine st (La (some 48) 44 ⟨g7,0,none⟩ [.string ⟨x_.Path.toArray⟩,.int .i64 x_.Kind,.int .i64 x_.Mode,.int .i64 x_.Uid,.int .i64 x_.Gid,.int .i64 x_.Time,.int .i64 0,.slice none 0 0,.string ⟨x_.Target.toArray⟩,.int .i64 x_.Dev,.slice A0_10 x_.Attrs.length c0_10] (H.cellsB 0 rfl (by rfl)) ?_)
     refine st (Sa none 44 1 g2 0 [.string ⟨x_.Path.toArray⟩,.int .i64 x_.Kind,.int .i64 x_.Mode,.int .i64 x_.Uid,.int .i64 x_.Gid,.int .i64 x_.Time,.int .i64 0,.slice none 0 0,.string ⟨x_.Target.toArray⟩,.int .i64 x_.Dev,.slice A0_10 x_.Attrs.length c0_10] [.string ⟨x_.Path.toArray⟩,.int .i64 x_.Kind,.int .i64 x_.Mode,.int .i64 x_.Uid,.int .i64 x_.Gid,.int .i64 x_.Time,.int .i64 0,.slice none 0 0,.string ⟨x_.Target.toArray⟩,.int .i64 x_.Dev,.slice A0_10 x_.Attrs.length c0_10] H rfl (by rfl) (of_decide_eq_true rfl) rfl ?_)
     intro w42 H
     refine Sg 1 [.co [1,1,1,1,1,1,1]] [(2,.pointer (some ⟨g2,0,none⟩))] ?_
     refine retC [.agg #[.string ⟨x_.Path.toArray⟩,.int .i64 x_.Kind,.int .i64 x_.Mode,.int .i64 x_.Uid,.int .i64 x_.Gid,.int .i64 x_.Time,.int .i64 0,.slice none 0 0,.string ⟨x_.Target.toArray⟩,.int .i64 x_.Dev,.slice A0_10 x_.Attrs.length c0_10]] (by kernel_rfl) ⟨⟨_,rfl,ldv_agg 44 ⟨g2,0,none⟩ [.string ⟨x_.Path.toArray⟩,.int .i64 x_.Kind,.int .i64 x_.Mode,.int .i64 x_.Uid,.int .i64 x_.Gid,.int .i64 x_.Time,.int .i64 0,.slice none 0 0,.string ⟨x_.Target.toArray⟩,.int .i64 x_.Dev,.slice A0_10 x_.Attrs.length c0_10] (by kernel_rfl) (H.cellsB 1 rfl (by rfl))⟩,trivial⟩ ?_
     obtain rfl:({ Path:=x_.Path,Kind:=x_.Kind,Mode:=x_.Mode,Uid:=x_.Uid,Gid:=x_.Gid,Time:=x_.Time,Size:=0,Data:=[],Target:=x_.Target,Dev:=x_.Dev,Attrs:=x_.Attrs }:TApiEntry)=r:=hf
     exact ⟨_,rfl,none,0,A0_10,c0_10,m,rfl,(St.takeN 0 H),(SlI.nil _ _),s0_10,l0_0,l0_8⟩
    ·rw [hb40]
     have p40:=of_decide_eq_false hb40
     refine Sg 4 [.op [1,1,1,1,1,1,0] 0,.co [1,1,1,1,1,1,1]] [(2,.pointer (some ⟨g2,0,none⟩)),(3,.pointer (some ⟨g7,0,none⟩))] ?_
     refine st (La (some 48) 44 ⟨g7,0,none⟩ [.string ⟨x_.Path.toArray⟩,.int .i64 x_.Kind,.int .i64 x_.Mode,.int .i64 x_.Uid,.int .i64 x_.Gid,.int .i64 x_.Time,.int .i64 0,.slice none 0 0,.string ⟨x_.Target.toArray⟩,.int .i64 0,.slice A0_10 x_.Attrs.length c0_10] (H.cellsB 0 rfl (by rfl)) ?_)
     refine st (Sa none 44 1 g2 0 [.string ⟨x_.Path.toArray⟩,.int .i64 x_.Kind,.int .i64 x_.Mode,.int .i64 x_.Uid,.int .i64 x_.Gid,.int .i64 x_.Time,.int .i64 0,.slice none 0 0,.string ⟨x_.Target.toArray⟩,.int .i64 0,.slice A0_10 x_.Attrs.length c0_10] [.string ⟨x_.Path.toArray⟩,.int .i64 x_.Kind,.int .i64 x_.Mode,.int .i64 x_.Uid,.int .i64 x_.Gid,.int .i64 x_.Time,.int .i64 0,.slice none 0 0,.string ⟨x_.Target.toArray⟩,.int .i64 0,.slice A0_10 x_.Attrs.length c0_10] H rfl (by rfl) (of_decide_eq_true rfl) rfl ?_)
     intro w43 H
     refine Sg 1 [.co [1,1,1,1,1,1,1]] [(2,.pointer (some ⟨g2,0,none⟩))] ?_
     refine retC [.agg #[.string ⟨x_.Path.toArray⟩,.int .i64 x_.Kind,.int .i64 x_.Mode,.int .i64 x_.Uid,.int .i64 x_.Gid,.int .i64 x_.Time,.int .i64 0,.slice none 0 0,.string ⟨x_.Target.toArray⟩,.int .i64 0,.slice A0_10 x_.Attrs.length c0_10]] (by kernel_rfl) ⟨⟨_,rfl,ldv_agg 44 ⟨g2,0,none⟩ [.string ⟨x_.Path.toArray⟩,.int .i64 x_.Kind,.int .i64 x_.Mode,.int .i64 x_.Uid,.int .i64 x_.Gid,.int .i64 x_.Time,.int .i64 0,.slice none 0 0,.string ⟨x_.Target.toArray⟩,.int .i64 0,.slice A0_10 x_.Attrs.length c0_10] (by kernel_rfl) (H.cellsB 1 rfl (by rfl))⟩,trivial⟩ ?_
     obtain rfl:({ Path:=x_.Path,Kind:=x_.Kind,Mode:=x_.Mode,Uid:=x_.Uid,Gid:=x_.Gid,Time:=x_.Time,Size:=0,Data:=[],Target:=x_.Target,Dev:=0,Attrs:=x_.Attrs }:TApiEntry)=r:=hf
     exact ⟨_,rfl,none,0,A0_10,c0_10,m,rfl,(St.takeN 0 H),(SlI.nil _ _),s0_10,l0_0,l0_8⟩
   ·rw [hb38]
    refine Sg 6 [.op [1,1,1,1,1,0,0] 1,.co [1,1,1,1,1,0,1],.co [1,1,1,1,1,1]] [(1,.pointer (some ⟨g1,0,none⟩)),(2,.pointer (some ⟨g2,0,none⟩)),(3,.pointer (some ⟨g7,0,none⟩)),(42,.pointer (some ⟨g1,1,none⟩))] ?_
    replace H:St w noF m m [blkI g7 [.string ⟨x_.Path.toArray⟩,.int .i64 x_.Kind,.int .i64 x_.Mode,.int .i64 x_.Uid,.int .i64 x_.Gid,.int .i64 x_.Time,.int .i64 0,.slice none 0 0,.string ⟨([]:List UInt8).toArray⟩,.int .i64 0,.slice A0_10 x_.Attrs.length c0_10] 44,blkI g2 [.string ⟨([]:List UInt8).toArray⟩,.int .i64 0,.int .i64 0,.int .i64 0,.int .i64 0,.int .i64 0,.int .i64 0,.slice none 0 0,.string ⟨([]:List UInt8).toArray⟩,.int .i64 0,.slice none 0 0] 44,blkI g1 [.string ⟨x_.Path.toArray⟩,.int .i64 x_.Kind,.int .i64 x_.Mode,.int .i64 x_.Uid,.int .i64 x_.Gid,.int .i64 x_.Time,.int .i64 x_.Size,.slice A0_7 x_.Data.length c0_7,.string ⟨x_.Target.toArray⟩,.int .i64 x_.Dev,.slice A0_10 x_.Attrs.length c0_10] 44] w9:=H
    refine st (Lr (some 43) 3 ⟨g1,1,none⟩ (.int .i64 x_.Kind) (H.cellB 2 rfl rfl) ?_)
    refine Sg 2 [.co [1,1,1,1,1,0,1],.co [1,1,1,1,1,1]] [(1,.pointer (some ⟨g1,0,none⟩)),(2,.pointer (some ⟨g2,0,none⟩)),(3,.pointer (some ⟨g7,0,none⟩)),(44,.bool (decide (x_.Kind > 3)))] ?_
    rcases condT hf with ⟨hb44,hf⟩ | ⟨hb44,hf⟩
    ·rw [hb44]
     have p44:=of_decide_eq_true hb44
     refine Sg 3 [.op [1,1,1,1,1,0,1,0] 1,.co [1,1,1,1,1,1]] [(2,.pointer (some ⟨g2,0,none⟩)),(3,.pointer (some ⟨g7,0,none⟩)),(45,.pointer (some ⟨g1,9,none⟩))] ?_
     refine st (Lr (some 46) 3 ⟨g1,9,none⟩ (.int .i64 x_.Dev) (H.cellB 2 rfl rfl) ?_)
     refine Sg 1 [.op [1,1,1,1,1,0,1,0] 3,.co [1,1,1,1,1,1]] [(2,.pointer (some ⟨g2,0,none⟩)),(3,.pointer (some ⟨g7,0,none⟩)),(46,.int .i64 x_.Dev),(47,.pointer (some ⟨g7,9,none⟩))] ?_
     refine st (Ss none 3 0 g7 9 (.int .i64 x_.Dev) H rfl rfl (of_decide_eq_true rfl) ?_)
     intro w45 H
     refine Sg 3 [.op [1,1,1,1,1,1,0] 0,.co [1,1,1,1,1,1,1]] [(2,.pointer (some ⟨g2,0,none⟩)),(3,.pointer (some ⟨g7,0,none⟩))] ?_
     refine st (La (some 48) 44 ⟨g7,0,none⟩ [.string ⟨x_.Path.toArray⟩,.int .i64 x_.Kind,.int .i64 x_.Mode,.int .i64 x_.Uid,.int .i64 x_.Gid,.int .i64 x_.Time,.int .i64 0,.slice none 0 0,.string ⟨([]:List UInt8).toArray⟩,.int .i64 x_.Dev,.slice A0_10 x_.Attrs.length c0_10] (H.cellsB 0 rfl (by rfl)) ?_)
     refine st (Sa none 44 1 g2 0 [.string ⟨x_.Path.toArray⟩,.int .i64 x_.Kind,.int .i64 x_.Mode,.int .i64 x_.Uid,.int .i64 x_.Gid,.int .i64 x_.Time,.int .i64 0,.slice none 0 0,.string ⟨([]:List UInt8).toArray⟩,.int .i64 x_.Dev,.slice A0_10 x_.Attrs.length c0_10] [.string ⟨x_.Path.toArray⟩,.int .i64 x_.Kind,.int .i64 x_.Mode,.int .i64 x_.Uid,.int .i64 x_.Gid,.int .i64 x_.Time,.int .i64 0,.slice none 0 0,.string ⟨([]:List UInt8).toArray⟩,.int .i64 x_.Dev,.slice A0_10 x_.Attrs.length c0_10] H rfl (by rfl) (of_decide_eq_true rfl) rfl ?_)
     intro w46 H
     refine Sg 1 [.co [1,1,1,1,1,1,1]] [(2,.pointer (some ⟨g2,0,none⟩))] ?_
     refine retC [.agg #[.string ⟨x_.Path.toArray⟩,.int .i64 x_.Kind,.int .i64 x_.Mode,.int .i64 x_.Uid,.int .i64 x_.Gid,.int .i64 x_.Time,.int .i64 0,.slice none 0 0,.string ⟨([]:List UInt8).toArray⟩,.int .i64 x_.Dev,.slice A0_10 x_.Attrs.length c0_10]] (by kernel_rfl) ⟨⟨_,rfl,ldv_agg 44 ⟨g2,0,none⟩ [.string ⟨x_.Path.toArray⟩,.int .i64 x_.Kind,.int .i64 x_.Mode,.int .i64 x_.Uid,.int .i64 x_.Gid,.int .i64 x_.Time,.int .i64 0,.slice none 0 0,.string ⟨([]:List UInt8).toArray⟩,.int .i64 x_.Dev,.slice A0_10 x_.Attrs.length c0_10] (by kernel_rfl) (H.cellsB 1 rfl (by rfl))⟩,trivial⟩ ?_
     obtain rfl:({ Path:=x_.Path,Kind:=x_.Kind,Mode:=x_.Mode,Uid:=x_.Uid,Gid:=x_.Gid,Time:=x_.Time,Size:=0,Data:=[],Target:=([]:List UInt8),Dev:=x_.Dev,Attrs:=x_.Attrs }:TApiEntry)=r:=hf
     exact ⟨_,rfl,none,0,A0_10,c0_10,m,rfl,(St.takeN 0 H),(SlI.nil _ _),s0_10,l0_0,(Nat.le_of_ble_eq_true rfl)⟩
    ·rw [hb44]
     have p44:=of_decide_eq_false hb44
     refine Sg 4 [.op [1,1,1,1,1,1,0] 0,.co [1,1,1,1,1,1,1]] [(2,.pointer (some ⟨g2,0,none⟩)),(3,.pointer (some ⟨g7,0,none⟩))] ?_
     refine st (La (some 48) 44 ⟨g7,0,none⟩ [.string ⟨x_.Path.toArray⟩,.int .i64 x_.Kind,.int .i64 x_.Mode,.int .i64 x_.Uid,.int .i64 x_.Gid,.int .i64 x_.Time,.int .i64 0,.slice none 0 0,.string ⟨([]:List UInt8).toArray⟩,.int .i64 0,.slice A0_10 x_.Attrs.length c0_10] (H.cellsB 0 rfl (by rfl)) ?_)
     refine st (Sa none 44 1 g2 0 [.string ⟨x_.Path.toArray⟩,.int .i64 x_.Kind,.int .i64 x_.Mode,.int .i64 x_.Uid,.int .i64 x_.Gid,.int .i64 x_.Time,.int .i64 0,.slice none 0 0,.string ⟨([]:List UInt8).toArray⟩,.int .i64 0,.slice A0_10 x_.Attrs.length c0_10] [.string ⟨x_.Path.toArray⟩,.int .i64 x_.Kind,.int .i64 x_.Mode,.int .i64 x_.Uid,.int .i64 x_.Gid,.int .i64 x_.Time,.int .i64 0,.slice none 0 0,.string ⟨([]:List UInt8).toArray⟩,.int .i64 0,.slice A0_10 x_.Attrs.length c0_10] H rfl (by rfl) (of_decide_eq_true rfl) rfl ?_)
     intro w47 H
     refine Sg 1 [.co [1,1,1,1,1,1,1]] [(2,.pointer (some ⟨g2,0,none⟩))] ?_
     refine retC [.agg #[.string ⟨x_.Path.toArray⟩,.int .i64 x_.Kind,.int .i64 x_.Mode,.int .i64 x_.Uid,.int .i64 x_.Gid,.int .i64 x_.Time,.int .i64 0,.slice none 0 0,.string ⟨([]:List UInt8).toArray⟩,.int .i64 0,.slice A0_10 x_.Attrs.length c0_10]] (by kernel_rfl) ⟨⟨_,rfl,ldv_agg 44 ⟨g2,0,none⟩ [.string ⟨x_.Path.toArray⟩,.int .i64 x_.Kind,.int .i64 x_.Mode,.int .i64 x_.Uid,.int .i64 x_.Gid,.int .i64 x_.Time,.int .i64 0,.slice none 0 0,.string ⟨([]:List UInt8).toArray⟩,.int .i64 0,.slice A0_10 x_.Attrs.length c0_10] (by kernel_rfl) (H.cellsB 1 rfl (by rfl))⟩,trivial⟩ ?_
     obtain rfl:({ Path:=x_.Path,Kind:=x_.Kind,Mode:=x_.Mode,Uid:=x_.Uid,Gid:=x_.Gid,Time:=x_.Time,Size:=0,Data:=[],Target:=([]:List UInt8),Dev:=0,Attrs:=x_.Attrs }:TApiEntry)=r:=hf
     exact ⟨_,rfl,none,0,A0_10,c0_10,m,rfl,(St.takeN 0 H),(SlI.nil _ _),s0_10,l0_0,(Nat.le_of_ble_eq_true rfl)⟩
theorem ref11_SameAttrs_c {m:Mem} {w:World} (hm:Has m w) (a:(List TApiAttr)) (A0_0:Option Addr) (c0_0:Nat) (s0_0:SlI rApiAttr m A0_0 c0_0 a) (b:(List TApiAttr)) (A1_0:Option Addr) (c1_0:Nat) (s1_0:SlI rApiAttr m A1_0 c1_0 b) {r:Bool} (hf:ref11_SameAttrs a b=some r) :
  Calls Tryd.prog 45 #[.slice A0_0 a.length c0_0,.slice A1_0 b.length c1_0] w fun e w' => ∃ v,e=.returned v ∧ v=.bool r ∧ Ex w w':=by
 unfold ref11_SameAttrs at hf
 have H:=St.start0 hm
 refine Fc Tryd.func45 ?_
 refine Sg 13 [.co [1,0,1],.co [1,1]] [(0,.slice A0_0 a.length c0_0),(1,.slice A1_0 b.length c1_0),(10,.bool ((a.length:Int) != (b.length:Int)))] ?_
 rcases condT hf with ⟨hb2,hf⟩ | ⟨hb2,hf⟩
 ·rw [hb2]
  refine Sg 5 [.co [1,0,1,0,1],.co [1,1]] [(4,.bool false)] ?_
  refine Rr [4] [.bool false] ?_
  have hret:=(Option.some.inj hf)
  subst hret
  exact ⟨_,rfl,rfl,H.scalar⟩
 ·rw [hb2]
  refine Sg 7 [.co [1,1,0,1],.co [1,1,1]] [(0,.slice A0_0 a.length c0_0),(1,.slice A1_0 b.length c1_0),(5,.int .i64 0)] ?_
  obtain ⟨y165,hp165,hfl165,hfr165⟩:=bndE hf
  refine joinR 0 (fun (x:Unit) => []) (fun (x:Unit) (wj165:World) => y165=.inl () ∧ St w noF m m [] wj165) (by kernel_rfl) ?_ ?_
  ·refine Sg 1 [.co [1,1,0,1,0],.bl 0,.le 0,.co [1,1,1]] [(0,.slice A0_0 a.length c0_0),(1,.slice A1_0 b.length c1_0),(5,.int .i64 0)] ?_
   obtain ⟨nn203,hR203⟩:=loopO_iff.1 hp165
   refine Lp 1 (fun (x:Nat × Nat) => [(0,.slice A0_0 a.length c0_0),(1,.slice A1_0 b.length c1_0),(5,.int .i64 (x.2:Int))]) (fun (x:Nat × Nat) (wl203:World) => iter (fun s => ref11_SameAttrs_l1 a b s) x.1 x.2=some y165 ∧ St w noF m m [] wl203) (fun (x:Nat × Nat) => x.1) (nn203,0) ?_ ?_
   ·exact ⟨hR203,H⟩
   rintro ⟨n203,i⟩ wl203 ⟨hR203,H⟩
   try dsimp only at hR203
   try dsimp only at H
   obtain ⟨nk203,q203,rfl,hb_203,hnx203,hfin203⟩:=iterE hR203
   replace hb_203:ref11_SameAttrs_l1 a b i=some q203:=hb_203
   unfold ref11_SameAttrs_l1 at hb_203
   refine Sg 8 [.co [1,1,0,1,0,0,0,1],.co [1,1,0,1,0,0,1],.le 1,.bl 0,.le 0,.co [1,1,1]] [(0,.slice A0_0 a.length c0_0),(1,.slice A1_0 b.length c1_0),(5,.int .i64 (i:Int)),(14,.bool (decide ((i:Int) < (a.length:Int))))] ?_
   rcases condT hb_203 with ⟨hb205,hb_203⟩ | ⟨hb205,hb_203⟩
   ·rw [hb205]
    have p205:=of_decide_eq_true hb205
    refine Sg 5 [.co [1,1,0,1,0,0,1,0,0,0],.co [1,1,0,1,0,0,1,0,0,1],.bl 1,.co [1,1,0,1,0,0,1,1],.le 1,.bl 0,.le 0,.co [1,1,1]] [(0,.slice A0_0 a.length c0_0),(1,.slice A1_0 b.length c1_0),(5,.int .i64 (i:Int))] ?_
    obtain ⟨x_,h_x_,hb_203⟩:=bindE hb_203
    obtain ⟨x_1,h_x_1,hb_203⟩:=bindE hb_203
    rcases condT hb_203 with ⟨hb210,hb_203⟩ | ⟨hb210,hb_203⟩
    ·have hst:statB (bodyOf Tryd.f45) [1,1,0,1,0,0,1,0,0,0]=true:=by kernel_rfl
     refine Dw (Has m) H ?_
     intro w215 H
     refine Sk hst [0,1,5,6] [0,1,5,6] [(0,.slice A0_0 a.length c0_0),(1,.slice A1_0 b.length c1_0),(5,.int .i64 (i:Int)),(17,.slice A0_0 a.length c0_0),(18,.int .i64 (i:Int)),(22,.slice A1_0 b.length c1_0),(23,.int .i64 (i:Int))] ?_
     obtain ⟨ad216,_,ea216,⟨A216_1,c216_1,rfl,hl216_0,hs216_1⟩,hc216⟩:=s0_0.at_ h_x_ (by decide)
     refine Tk (i:=2) (d:=(some 19)) (s:=vS (Instr.indexAt 42 (.slice A0_0 a.length c0_0) (.int .i64 (i:Int)))) (v:=.pointer (some (ad216.add (i * 2)))) hst (fun w' hw' => idx_run 42 46 2 _ ad216 _ _ _ _ _ ea216 (by kernel_rfl) (by omega) (by have:=(List.getElem?_eq_some_iff.1 h_x_).1; omega) rfl) ?_
     refine Sk hst [3] [0,1,5,6,2,3] [(0,.slice A0_0 a.length c0_0),(1,.slice A1_0 b.length c1_0),(5,.int .i64 (i:Int)),(20,.pointer (some (ad216.add (i * 2)))),(22,.slice A1_0 b.length c1_0),(23,.int .i64 (i:Int))] ?_
     refine Tk (i:=4) (d:=(some 21)) (s:=vS (Instr.loadAt 9 (.pointer (some (ad216.add (i * 2)))))) (v:=(.string ⟨x_.Name.toArray⟩)) hst (fun w' hw' => ld_run _ _ _ (by kernel_rfl) (hw'.cell (mc0 (hc216 0 _ rfl)))) ?_
     obtain ⟨ad217,_,ea217,⟨A217_1,c217_1,rfl,hl217_0,hs217_1⟩,hc217⟩:=s1_0.at_ h_x_1 (by decide)
     refine Sd (i:=7) H.has (Ix (some 24) 42 46 2 A1_0 ad217 b.length c1_0 .i64 (i:Int) ea217 (by omega) (by have:=(List.getElem?_eq_some_iff.1 h_x_1).1; omega) ?_)
     refine Sk hst [8] [0,1,5,6,2,3,4,7,8] [(0,.slice A0_0 a.length c0_0),(1,.slice A1_0 b.length c1_0),(5,.int .i64 (i:Int)),(21,.string ⟨x_.Name.toArray⟩),(25,.pointer (some (ad217.add (i * 2))))] ?_
     refine Sd (i:=9) H.has (Lr (some 26) 9 (ad217.add (i * 2)) (.string ⟨x_1.Name.toArray⟩) (H.cellI (mc0 (hc217 0 _ rfl))) ?_)
     refine Sk hst [10] [0,1,5,6,2,3,4,7,8,9,10] [(0,.slice A0_0 a.length c0_0),(1,.slice A1_0 b.length c1_0),(5,.int .i64 (i:Int)),(27,.bool (!((ByteArray.toList ⟨x_.Name.toArray⟩) == (ByteArray.toList ⟨x_1.Name.toArray⟩))))] ?_
     rw [sne_raw x_.Name x_1.Name]
     rw [show (x_.Name != x_1.Name)=true from hb210]
     refine Sk hst [11,12,13,14,15,16,17,18,19,20,21,22,23,24,25] [0,1,5,6,2,3,4,7,8,9,10,11,12,13,14,15,16,17,18,19,20,21,22,23,24,25] [(0,.slice A0_0 a.length c0_0),(1,.slice A1_0 b.length c1_0),(5,.int .i64 (i:Int)),(42,.bool true)] ?_
     refine Ed H.has ?_
     refine Sg 5 [.co [1,1,0,1,0,0,1,0,0,1,0,1],.bl 1,.co [1,1,0,1,0,0,1,1],.le 1,.bl 0,.le 0,.co [1,1,1]] [(4,.bool false)] ?_
     refine Rr [4] [.bool false] ?_
     have hret:=(hfr165 _ (hfin203 _ (Option.some.inj hb_203).symm).symm)
     subst hret
     exact ⟨_,rfl,rfl,H.scalar⟩
    ·have hst:statB (bodyOf Tryd.f45) [1,1,0,1,0,0,1,0,0,0]=true:=by kernel_rfl
     refine Dw (Has m) H ?_
     intro w224 H
     refine Sk hst [0,1,5,6] [0,1,5,6] [(0,.slice A0_0 a.length c0_0),(1,.slice A1_0 b.length c1_0),(5,.int .i64 (i:Int)),(17,.slice A0_0 a.length c0_0),(18,.int .i64 (i:Int)),(22,.slice A1_0 b.length c1_0),(23,.int .i64 (i:Int))] ?_
     obtain ⟨ad225,_,ea225,⟨A225_1,c225_1,rfl,hl225_0,hs225_1⟩,hc225⟩:=s0_0.at_ h_x_ (by decide)
     refine Tk (i:=2) (d:=(some 19)) (s:=vS (Instr.indexAt 42 (.slice A0_0 a.length c0_0) (.int .i64 (i:Int)))) (v:=.pointer (some (ad225.add (i * 2)))) hst (fun w' hw' => idx_run 42 46 2 _ ad225 _ _ _ _ _ ea225 (by kernel_rfl) (by omega) (by have:=(List.getElem?_eq_some_iff.1 h_x_).1; omega) rfl) ?_
     refine Sk hst [3] [0,1,5,6,2,3] [(0,.slice A0_0 a.length c0_0),(1,.slice A1_0 b.length c1_0),(5,.int .i64 (i:Int)),(20,.pointer (some (ad225.add (i * 2)))),(22,.slice A1_0 b.length c1_0),(23,.int .i64 (i:Int))] ?_
     refine Tk (i:=4) (d:=(some 21)) (s:=vS (Instr.loadAt 9 (.pointer (some (ad225.add (i * 2)))))) (v:=(.string ⟨x_.Name.toArray⟩)) hst (fun w' hw' => ld_run _ _ _ (by kernel_rfl) (hw'.cell (mc0 (hc225 0 _ rfl)))) ?_
     obtain ⟨ad226,_,ea226,⟨A226_1,c226_1,rfl,hl226_0,hs226_1⟩,hc226⟩:=s1_0.at_ h_x_1 (by decide)
     refine Sd (i:=7) H.has (Ix (some 24) 42 46 2 A1_0 ad226 b.length c1_0 .i64 (i:Int) ea226 (by omega) (by have:=(List.getElem?_eq_some_iff.1 h_x_1).1; omega) ?_)
     refine Sk hst [8] [0,1,5,6,2,3,4,7,8] [(0,.slice A0_0 a.length c0_0),(1,.slice A1_0 b.length c1_0),(5,.int .i64 (i:Int)),(21,.string ⟨x_.Name.toArray⟩),(25,.pointer (some (ad226.add (i * 2))))] ?_
     refine Sd (i:=9) H.has (Lr (some 26) 9 (ad226.add (i * 2)) (.string ⟨x_1.Name.toArray⟩) (H.cellI (mc0 (hc226 0 _ rfl))) ?_)
     refine Sk hst [10] [0,1,5,6,2,3,4,7,8,9,10] [(0,.slice A0_0 a.length c0_0),(1,.slice A1_0 b.length c1_0),(5,.int .i64 (i:Int)),(27,.bool (!((ByteArray.toList ⟨x_.Name.toArray⟩) == (ByteArray.toList ⟨x_1.Name.toArray⟩))))] ?_
     rw [sne_raw x_.Name x_1.Name]
     rw [show (x_.Name != x_1.Name)=false from hb210]
     refine Sk hst [11,12,13,18,19] [0,1,5,6,2,3,4,7,8,9,10,11,12,13,18,19] [(0,.slice A0_0 a.length c0_0),(1,.slice A1_0 b.length c1_0),(5,.int .i64 (i:Int)),(28,.bool false),(29,.slice A0_0 a.length c0_0),(30,.int .i64 (i:Int)),(35,.slice A1_0 b.length c1_0),(36,.int .i64 (i:Int))] ?_
     refine Tk (i:=14) (d:=(some 31)) (s:=vS (Instr.indexAt 42 (.slice A0_0 a.length c0_0) (.int .i64 (i:Int)))) (v:=.pointer (some (ad225.add (i * 2)))) hst (fun w' hw' => idx_run 42 46 2 _ ad225 _ _ _ _ _ ea225 (by kernel_rfl) (by omega) (by have:=(List.getElem?_eq_some_iff.1 h_x_).1; omega) rfl) ?_
     refine Sk hst [15] [0,1,5,6,2,3,4,7,8,9,10,11,12,13,18,19,14,15] [(0,.slice A0_0 a.length c0_0),(1,.slice A1_0 b.length c1_0),(5,.int .i64 (i:Int)),(28,.bool false),(32,.pointer (some ((ad225.add (i * 2)).add 1))),(35,.slice A1_0 b.length c1_0),(36,.int .i64 (i:Int))] ?_
     refine Tk (i:=16) (d:=(some 33)) (s:=vS (Instr.loadAt 25 (.pointer (some ((ad225.add (i * 2)).add 1))))) (v:=(.slice A225_1 x_.Value.length c225_1)) hst (fun w' hw' => ld_run _ _ _ (by kernel_rfl) (hw'.cell (hc225 1 _ rfl))) ?_
     refine Tk (i:=20) (d:=(some 37)) (s:=vS (Instr.indexAt 42 (.slice A1_0 b.length c1_0) (.int .i64 (i:Int)))) (v:=.pointer (some (ad226.add (i * 2)))) hst (fun w' hw' => idx_run 42 46 2 _ ad226 _ _ _ _ _ ea226 (by kernel_rfl) (by omega) (by have:=(List.getElem?_eq_some_iff.1 h_x_1).1; omega) rfl) ?_
     refine Sk hst [21] [0,1,5,6,2,3,4,7,8,9,10,11,12,13,18,19,14,15,16,20,21] [(0,.slice A0_0 a.length c0_0),(1,.slice A1_0 b.length c1_0),(5,.int .i64 (i:Int)),(28,.bool false),(33,.slice A225_1 x_.Value.length c225_1),(38,.pointer (some ((ad226.add (i * 2)).add 1)))] ?_
     refine Tk (i:=22) (d:=(some 39)) (s:=vS (Instr.loadAt 25 (.pointer (some ((ad226.add (i * 2)).add 1))))) (v:=(.slice A226_1 x_1.Value.length c226_1)) hst (fun w' hw' => ld_run _ _ _ (by kernel_rfl) (hw'.cell (hc226 1 _ rfl))) ?_
     refine allD2 [17,23] (by kernel_rfl) H.has ⟨?_,?_,trivial⟩
     ·refine (b2sS (some 34) 25 9 5 A225_1 c225_1 x_.Value Tryd.underlying25 Tryd.underlying5 Tryd.underlying9 (by kernel_rfl) (hs225_1.bytes.cs H.has) ?_)
      have hl227:x_.Value.length ≤ 9223372036854775807:=hs225_1.bound
      refine Sd (i:=23) H.has (b2sS (some 40) 25 9 5 A226_1 c226_1 x_1.Value Tryd.underlying25 Tryd.underlying5 Tryd.underlying9 (by kernel_rfl) (hs226_1.bytes.cs H.has) ?_)
      have hl228:x_1.Value.length ≤ 9223372036854775807:=hs226_1.bound
      refine Sk hst [24] [0,1,5,6,2,3,4,7,8,9,10,11,12,13,18,19,14,15,16,20,21,22,17,23,24] [(0,.slice A0_0 a.length c0_0),(1,.slice A1_0 b.length c1_0),(5,.int .i64 (i:Int)),(28,.bool false),(41,.bool (!((ByteArray.toList ⟨x_.Value.toArray⟩) == (ByteArray.toList ⟨x_1.Value.toArray⟩))))] ?_
      rw [sne_raw x_.Value x_1.Value]
      refine Sk hst [25] [0,1,5,6,2,3,4,7,8,9,10,11,12,13,18,19,14,15,16,20,21,22,17,23,24,25] [(0,.slice A0_0 a.length c0_0),(1,.slice A1_0 b.length c1_0),(5,.int .i64 (i:Int)),(42,.bool (x_.Value != x_1.Value))] ?_
      refine Ed H.has ?_
      rcases condT hb_203 with ⟨hb229,hb_203⟩ | ⟨hb229,hb_203⟩
      ·rw [hb229]
       refine Sg 5 [.co [1,1,0,1,0,0,1,0,0,1,0,1],.bl 1,.co [1,1,0,1,0,0,1,1],.le 1,.bl 0,.le 0,.co [1,1,1]] [(4,.bool false)] ?_
       refine Rr [4] [.bool false] ?_
       have hret:=(hfr165 _ (hfin203 _ (Option.some.inj hb_203).symm).symm)
       subst hret
       exact ⟨_,rfl,rfl,H.scalar⟩
      ·rw [hb229]
       refine Sg 8 [.le 1,.bl 0,.le 0,.co [1,1,1]] [(0,.slice A0_0 a.length c0_0),(1,.slice A1_0 b.length c1_0),(5,.int .i64 (IntKind.i64.wrap ((i:Int)+1)))] ?_
       have:=s0_0.bound
       rw [show IntKind.i64.wrap ((i:Int)+1)=((i:Int)+1) from w64 (by omega)]
       refine Lq (nk203,(i+1)) (Nat.lt_succ_self _) ⟨hnx203 _ (Option.some.inj hb_203).symm,H⟩
     ·refine (b2sS (some 40) 25 9 5 A226_1 c226_1 x_1.Value Tryd.underlying25 Tryd.underlying5 Tryd.underlying9 (by kernel_rfl) (hs226_1.bytes.cs H.has) ?_)
      have hl230:x_1.Value.length ≤ 9223372036854775807:=hs226_1.bound
      refine Sd (i:=17) H.has (b2sS (some 34) 25 9 5 A225_1 c225_1 x_.Value Tryd.underlying25 Tryd.underlying5 Tryd.underlying9 (by kernel_rfl) (hs225_1.bytes.cs H.has) ?_)
      have hl231:x_.Value.length ≤ 9223372036854775807:=hs225_1.bound
      refine Sk hst [24] [0,1,5,6,2,3,4,7,8,9,10,11,12,13,18,19,14,15,16,20,21,22,23,17,24] [(0,.slice A0_0 a.length c0_0),(1,.slice A1_0 b.length c1_0),(5,.int .i64 (i:Int)),(28,.bool false),(41,.bool (!((ByteArray.toList ⟨x_.Value.toArray⟩) == (ByteArray.toList ⟨x_1.Value.toArray⟩))))] ?_
      rw [sne_raw x_.Value x_1.Value]
      refine Sk hst [25] [0,1,5,6,2,3,4,7,8,9,10,11,12,13,18,19,14,15,16,20,21,22,23,17,24,25] [(0,.slice A0_0 a.length c0_0),(1,.slice A1_0 b.length c1_0),(5,.int .i64 (i:Int)),(42,.bool (x_.Value != x_1.Value))] ?_
      refine Ed H.has ?_
      rcases condT hb_203 with ⟨hb232,hb_203⟩ | ⟨hb232,hb_203⟩
      ·rw [hb232]
       refine Sg 5 [.co [1,1,0,1,0,0,1,0,0,1,0,1],.bl 1,.co [1,1,0,1,0,0,1,1],.le 1,.bl 0,.le 0,.co [1,1,1]] [(4,.bool false)] ?_
       refine Rr [4] [.bool false] ?_
       have hret:=(hfr165 _ (hfin203 _ (Option.some.inj hb_203).symm).symm)
       subst hret
       exact ⟨_,rfl,rfl,H.scalar⟩
      ·rw [hb232]
       refine Sg 8 [.le 1,.bl 0,.le 0,.co [1,1,1]] [(0,.slice A0_0 a.length c0_0),(1,.slice A1_0 b.length c1_0),(5,.int .i64 (IntKind.i64.wrap ((i:Int)+1)))] ?_
       have:=s0_0.bound
       rw [show IntKind.i64.wrap ((i:Int)+1)=((i:Int)+1) from w64 (by omega)]
       refine Lq (nk203,(i+1)) (Nat.lt_succ_self _) ⟨hnx203 _ (Option.some.inj hb_203).symm,H⟩
   ·rw [hb205]
    have p205:=of_decide_eq_false hb205
    refine Sg 2 [.le 0,.co [1,1,1]] [] ?_
    refine leR_up (k':=[]) (by rfl) ?_
    refine Lj () ⟨(hfin203 _ (Option.some.inj hb_203).symm).symm,H⟩
  rintro _ wj165 ⟨hy165,H⟩
  have hf:=hfl165 _ hy165
  try dsimp only at hf
  refine Sg 4 [.co [1,1,1,1]] [(4,.bool true)] ?_
  refine Rr [4] [.bool true] ?_
  have hret:=(Option.some.inj hf)
  subst hret
  exact ⟨_,rfl,rfl,H.scalar⟩
end Go.Proofs.YtebbaokcgnjfiaaDoor.F
