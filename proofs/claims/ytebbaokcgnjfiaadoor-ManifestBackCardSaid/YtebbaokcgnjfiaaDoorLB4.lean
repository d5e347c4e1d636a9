import Derived.Test.YtebbaokcgnjfiaaDoorProg
import Derived.Test.YtebbaokcgnjfiaaDoorLBP
import Derived.Test.YtebbaokcgnjfiaaDoorLB3
set_option linter.unusedVariables false
set_option linter.unusedSimpArgs false
namespace Go.Proofs.YtebbaokcgnjfiaaDoor.F
open Go Go.RowKit Go.Proofs.YtebbaokcgnjfiaaDoor Go.Proofs.YtebbaokcgnjfiaaDoor.K
set_option maxRecDepth 100000
theorem manifest_reader_word_c {m:Mem} {w:World} (hm:Has m w) (g0:Nat) (r_:TManifestReader) (A0_0:Option Addr) (c0_0:Nat) (s0_0:SlI rU8 m A0_0 c0_0 r_.f_text.f_b) (A0_3:Option Addr) (c0_3:Nat) {F:Nat → Prop} (hsep:Sep m w [blkI g0 [.slice A0_0 r_.f_text.f_b.length c0_0,.int .i64 r_.f_text.f_at,.int .i64 r_.f_text.f_e,.slice A0_3 r_.f_l.length c0_3,.bool r_.f_full,.bool r_.f_more] 56] F) (hF:∀ k,F k → m k=none) {r:((List UInt8) × TManifestReader)} (hf:manifest_reader_word r_=some r) :
  Calls Tryd.prog 24 #[.pointer (some ⟨g0,0,none⟩)] w fun e w' => ∃ v,e=.returned v ∧ ∃ Az_o0_0:Option Addr,∃ cz_o0_0:Nat,∃ m':Mem,v=.string ⟨r.1.toArray⟩ ∧ St w F m m' [blkI g0 [.slice Az_o0_0 r.2.f_text.f_b.length cz_o0_0,.int .i64 r.2.f_text.f_at,.int .i64 r.2.f_text.f_e,.slice A0_3 r_.f_l.length c0_3,.bool r.2.f_full,.bool r.2.f_more] 56] w' ∧ SlI rU8 m' Az_o0_0 cz_o0_0 r.2.f_text.f_b ∧ r.1.length ≤ 9223372036854775807:=by
 unfold manifest_reader_word at hf
 have H:=St.start hm hsep hF
 refine Fc Tryd.func24 ?_
 refine Sg 15 [.op [1,1,0,0] 4,.co [1,1,0,1],.co [1,1,1]] [(0,.pointer (some ⟨g0,0,none⟩)),(3,.slice none 0 0),(11,.pointer (some ⟨g0,1,none⟩))] ?_
 refine st (Lr (some 12) 3 ⟨g0,1,none⟩ (.int .i64 r_.f_text.f_at) (H.cellB 0 rfl rfl) ?_)
 refine Sg 2 [.co [1,1,0,1],.co [1,1,1]] [(0,.pointer (some ⟨g0,0,none⟩)),(3,.slice none 0 0),(4,.int .i64 r_.f_text.f_at)] ?_
 obtain ⟨y440,hp440,hfl440,hfr440⟩:=bndE hf
 refine joinR 0 (fun (x:(List UInt8) × Int × Int × Bool × Bool × Option Addr × Nat × Mem) => []) (fun (x:(List UInt8) × Int × Int × Bool × Bool × Option Addr × Nat × Mem) (wj440:World) => y440=.inl (x.1,x.2.1,x.2.2.1,x.2.2.2.1,x.2.2.2.2.1) ∧ St w F m x.2.2.2.2.2.2.2 [blkI g0 [.slice (x.2.2.2.2.2.1) x.1.length (x.2.2.2.2.2.2.1),.int .i64 x.2.1,.int .i64 x.2.2.1,.slice A0_3 r_.f_l.length c0_3,.bool x.2.2.2.1,.bool x.2.2.2.2.1] 56] wj440 ∧ Sub m x.2.2.2.2.2.2.2 ∧ SlI rU8 x.2.2.2.2.2.2.2 x.2.2.2.2.2.1 x.2.2.2.2.2.2.1 x.1) (by kernel_rfl) ?_ ?_
 ·refine Sg 1 [.co [1,1,0,1,0],.bl 0,.le 0,.co [1,1,1]] [(0,.pointer (some ⟨g0,0,none⟩)),(3,.slice none 0 0),(4,.int .i64 r_.f_text.f_at)] ?_
  have H:=H.nilR rU8 5
  obtain ⟨nn528,hR528⟩:=loopO_iff.1 hp440
  refine Lp 1 (fun (x:Nat × (List UInt8) × Int × Int × Bool × Bool × (List UInt8) × Option Addr × Nat × Option Addr × Nat × Mem) => [(0,.pointer (some ⟨g0,0,none⟩)),(3,.slice (x.2.2.2.2.2.2.2.2.2.1) x.2.2.2.2.2.2.1.length (x.2.2.2.2.2.2.2.2.2.2.1)),(4,.int .i64 r_.f_text.f_at)]) (fun (x:Nat × (List UInt8) × Int × Int × Bool × Bool × (List UInt8) × Option Addr × Nat × Option Addr × Nat × Mem) (wl528:World) => iter (fun s => manifest_reader_word_l1 r_ s.1 s.2.1 s.2.2.1 s.2.2.2.1 s.2.2.2.2.1 s.2.2.2.2.2) x.1 (x.2.1,x.2.2.1,x.2.2.2.1,x.2.2.2.2.1,x.2.2.2.2.2.1,x.2.2.2.2.2.2.1)=some y440 ∧ St w F m x.2.2.2.2.2.2.2.2.2.2.2 [blkI g0 [.slice (x.2.2.2.2.2.2.2.1) x.2.1.length (x.2.2.2.2.2.2.2.2.1),.int .i64 x.2.2.1,.int .i64 x.2.2.2.1,.slice A0_3 r_.f_l.length c0_3,.bool x.2.2.2.2.1,.bool x.2.2.2.2.2.1] 56,rowI rU8 5 (x.2.2.2.2.2.2.2.2.2.1) (x.2.2.2.2.2.2.2.2.2.2.1) x.2.2.2.2.2.2.1] wl528 ∧ Sub m x.2.2.2.2.2.2.2.2.2.2.2 ∧ SlI rU8 x.2.2.2.2.2.2.2.2.2.2.2 x.2.2.2.2.2.2.2.1 x.2.2.2.2.2.2.2.2.1 x.2.1) (fun (x:Nat × (List UInt8) × Int × Int × Bool × Bool × (List UInt8) × Option Addr × Nat × Option Addr × Nat × Mem) => x.1) (nn528,r_.f_text.f_b,r_.f_text.f_at,r_.f_text.f_e,r_.f_full,r_.f_more,[],A0_0,c0_0,none,0,m) ?_ ?_
  ·exact ⟨hR528,(H.pull 1 rfl),(Sub.refl _),s0_0⟩
  rintro ⟨n528,b,at_,e_,full,more,b1,A_1_529,c_2_529,A_3_529,c_4_529,mm529⟩ wl528 ⟨hR528,H,hsub529,hs529_0⟩
  try dsimp only at hR528
  try dsimp only at H
  try dsimp only at hsub529
  try dsimp only at hs529_0
  obtain ⟨nk528,q528,rfl,hb_528,hnx528,hfin528⟩:=iterE hR528
  replace hb_528:manifest_reader_word_l1 r_ b at_ e_ full more b1=some q528:=hb_528
  unfold manifest_reader_word_l1 at hb_528
  refine Sg 7 [.op [1,1,0,1,0,0,0,0] 4,.co [1,1,0,1,0,0,0,1],.co [1,1,0,1,0,0,1],.le 1,.bl 0,.le 0,.co [1,1,1]] [(0,.pointer (some ⟨g0,0,none⟩)),(3,.slice A_3_529 b1.length c_4_529),(4,.int .i64 r_.f_text.f_at),(16,.pointer (some ⟨g0,2,none⟩))] ?_
  refine st (Lr (some 17) 26 ⟨g0,2,none⟩ (.int .i64 e_) (H.cellB 0 rfl rfl) ?_)
  refine Sg 2 [.co [1,1,0,1,0,0,0,1],.co [1,1,0,1,0,0,1],.le 1,.bl 0,.le 0,.co [1,1,1]] [(0,.pointer (some ⟨g0,0,none⟩)),(3,.slice A_3_529 b1.length c_4_529),(4,.int .i64 r_.f_text.f_at),(18,.bool (e_ == 0))] ?_
  rcases condT hb_528 with ⟨hb530,hb_528⟩ | ⟨hb530,hb_528⟩
  ·rw [hb530]
   refine Sg 8 [.op [1,1,0,1,0,0,1,0,0] 3,.co [1,1,0,1,0,0,1,0,1],.bl 1,.le 1,.bl 0,.le 0,.co [1,1,1]] [(0,.pointer (some ⟨g0,0,none⟩)),(3,.slice A_3_529 b1.length c_4_529),(4,.int .i64 r_.f_text.f_at),(21,.pointer (some ⟨g0,0,none⟩))] ?_
   obtain ⟨peek,h_peek,hb_528⟩:=bindE hb_528
   obtain ⟨F531,hse531,hFn531,hcl531⟩:=St.call [blkI g0 [.slice A_1_529 b.length c_2_529,.int .i64 at_,.int .i64 e_,.slice A0_3 r_.f_l.length c0_3,.bool full,.bool more] 56] H
   refine st (Cl (some 22) 37 #[.pointer (some ⟨g0,0,none⟩)] Tryd.call37 (manifest_text_peek_c H.has g0 ({ f_text:=({ f_b:=b,f_at:=at_,f_e:=e_ }:TManifestText),f_l:=r_.f_l,f_full:=full,f_more:=more }:TManifestReader) A_1_529 c_2_529 hs529_0 A0_3 c0_3 hse531 hFn531 h_peek) ?_)
   rintro _ w531 ⟨mk531,rfl,hS531⟩
   have hsub531:=hS531.sub
   replace H:=hcl531 _ _ _ hS531
   refine Sg 6 [.op [1,1,0,1,0,0,1,0,1,0,0] 1,.co [1,1,0,1,0,0,1,0,1,0,1],.bl 2,.bl 1,.le 1,.bl 0,.le 0,.co [1,1,1]] [(0,.pointer (some ⟨g0,0,none⟩)),(3,.slice A_3_529 b1.length c_4_529),(4,.int .i64 r_.f_text.f_at),(5,.int .u8 (peek.toNat:Int)),(42,.int .u8 (peek.toNat:Int))] ?_
   replace H:St w F m mk531 [blkI g0 [.slice A_1_529 b.length c_2_529,.int .i64 at_,.int .i64 e_,.slice A0_3 r_.f_l.length c0_3,.bool full,.bool more] 56,rowI rU8 5 A_3_529 c_4_529 b1] w531:=H
   refine st (Cl (some 43) 23 #[.int .u8 (peek.toNat:Int)] Tryd.call23 (manifest_plain_c H.has peek) ?_)
   rintro _ w532 ⟨rfl,hx532⟩
   replace H:=H.ex hx532
   refine Sg 2 [.co [1,1,0,1,0,0,1,0,1,0,1],.bl 2,.bl 1,.le 1,.bl 0,.le 0,.co [1,1,1]] [(0,.pointer (some ⟨g0,0,none⟩)),(3,.slice A_3_529 b1.length c_4_529),(4,.int .i64 r_.f_text.f_at),(5,.int .u8 (peek.toNat:Int)),(41,.bool (manifest_plain peek))] ?_
   rcases condT hb_528 with ⟨hb533,hb_528⟩ | ⟨hb533,hb_528⟩
   ·rw [hb533]
    refine Sg 5 [.op [1,1,0,1,0,0,1,0,1,0,1,0,0] 2,.co [1,1,0,1,0,0,1,0,1,0,1,0,1],.bl 2,.bl 1,.le 1,.bl 0,.le 0,.co [1,1,1]] [(0,.pointer (some ⟨g0,0,none⟩)),(4,.int .i64 r_.f_text.f_at),(44,.slice A_3_529 b1.length c_4_529),(45,.int .u8 (peek.toNat:Int))] ?_
    refine st (Nw (some 46) (fun g => .slice (some ⟨g,0,none⟩) 1 1) [.int .u8 (peek.toNat:Int)] 5 H ?_)
    intro g534 w534 H
    obtain ⟨b2,h_b2,hb_528⟩:=bindE hb_528
    refine st (appS (r:=rU8) (some 47) 25 5 1 (.int .u8 0) 25 2 A_3_529 (some ⟨g534,0,none⟩) c_4_529 1 1 b1 [peek] b2 _ H rfl ⟨Tryd.underlying25,by kernel_rfl⟩ rfl (by decide) (by kernel_rfl) (Cs.of_blk (H.blk 0 rfl)) (Rows.u8.2 rfl) rfl h_b2 (by decide) (by decide) ?_)
    intro A535 c535 w535 H
    replace H:=H.drop 0 rfl
    refine Sg 7 [.op [1,1,0,1,0,0,1,0,1,0,1,0,1] 4,.bl 2,.bl 1,.le 1,.bl 0,.le 0,.co [1,1,1]] [(0,.pointer (some ⟨g0,0,none⟩)),(3,.slice A535 b2.length c535),(4,.int .i64 r_.f_text.f_at),(48,.pointer (some ⟨g0,0,none⟩)),(51,.pointer (some ⟨g0,1,none⟩))] ?_
    refine st (Lr (some 52) 3 ⟨g0,1,none⟩ (.int .i64 at_) (H.cellB 0 rfl rfl) ?_)
    refine Sg 4 [.op [1,1,0,1,0,0,1,0,1,0,1,0,1] 9,.bl 2,.bl 1,.le 1,.bl 0,.le 0,.co [1,1,1]] [(0,.pointer (some ⟨g0,0,none⟩)),(3,.slice A535 b2.length c535),(4,.int .i64 r_.f_text.f_at),(53,.int .i64 (IntKind.i64.wrap (at_+1))),(56,.pointer (some ⟨g0,1,none⟩))] ?_
    refine st (Ss none 3 0 g0 1 (.int .i64 (IntKind.i64.wrap (at_+1))) H rfl rfl (of_decide_eq_true rfl) ?_)
    intro w536 H
    refine Sg 3 [.le 1,.bl 0,.le 0,.co [1,1,1]] [(0,.pointer (some ⟨g0,0,none⟩)),(3,.slice A535 b2.length c535),(4,.int .i64 r_.f_text.f_at)] ?_
    refine Lq (nk528,b,(IntKind.i64.wrap (at_+1)),e_,full,more,b2,A_1_529,c_2_529,A535,c535,mk531) (Nat.lt_succ_self _) ⟨hnx528 _ (Option.some.inj hb_528).symm,H,(hsub529.trans hsub531),(hs529_0.mono hsub531)⟩
   ·rw [hb533]
    refine Sg 7 [.co [1,1,0,1,0,0,1,0,1,0,1,1,1],.bl 2,.bl 1,.le 1,.bl 0,.le 0,.co [1,1,1]] [(0,.pointer (some ⟨g0,0,none⟩)),(3,.slice A_3_529 b1.length c_4_529),(4,.int .i64 r_.f_text.f_at),(57,.bool ((peek.toNat:Int) == 37))] ?_
    rcases condT hb_528 with ⟨hb537,hb_528⟩ | ⟨hb537,hb_528⟩
    ·rw [hb537]
     refine Sg 7 [.op [1,1,0,1,0,0,1,0,1,0,1,1,1,0,0] 4,.co [1,1,0,1,0,0,1,0,1,0,1,1,1,0,1],.bl 2,.bl 1,.le 1,.bl 0,.le 0,.co [1,1,1]] [(0,.pointer (some ⟨g0,0,none⟩)),(3,.slice A_3_529 b1.length c_4_529),(4,.int .i64 r_.f_text.f_at),(60,.pointer (some ⟨g0,0,none⟩)),(63,.pointer (some ⟨g0,1,none⟩))] ?_
     replace H:St w F m mk531 [blkI g0 [.slice A_1_529 b.length c_2_529,.int .i64 at_,.int .i64 e_,.slice A0_3 r_.f_l.length c0_3,.bool full,.bool more] 56,rowI rU8 5 A_3_529 c_4_529 b1] w532:=H
     refine st (Lr (some 64) 3 ⟨g0,1,none⟩ (.int .i64 at_) (H.cellB 0 rfl rfl) ?_)
     refine Sg 4 [.op [1,1,0,1,0,0,1,0,1,0,1,1,1,0,0] 9,.co [1,1,0,1,0,0,1,0,1,0,1,1,1,0,1],.bl 2,.bl 1,.le 1,.bl 0,.le 0,.co [1,1,1]] [(0,.pointer (some ⟨g0,0,none⟩)),(3,.slice A_3_529 b1.length c_4_529),(4,.int .i64 r_.f_text.f_at),(65,.int .i64 (IntKind.i64.wrap (at_+1))),(68,.pointer (some ⟨g0,1,none⟩))] ?_
     refine st (Ss none 3 0 g0 1 (.int .i64 (IntKind.i64.wrap (at_+1))) H rfl rfl (of_decide_eq_true rfl) ?_)
     intro w538 H
     refine Sg 3 [.co [1,1,0,1,0,0,1,0,1,0,1,1,1,0,1,0,0],.co [1,1,0,1,0,0,1,0,1,0,1,1,1,0,1,0,1],.co [1,1,0,1,0,0,1,0,1,0,1,1,1,0,1,1],.bl 2,.bl 1,.le 1,.bl 0,.le 0,.co [1,1,1]] [(0,.pointer (some ⟨g0,0,none⟩)),(3,.slice A_3_529 b1.length c_4_529),(4,.int .i64 r_.f_text.f_at)] ?_
     rcases condT hb_528 with ⟨hb539,hb_528⟩ | ⟨hb539,hb_528⟩
     ·rcases condT hb_528 with ⟨hb540,hb_528⟩ | ⟨hb540,hb_528⟩
      ·have hst:statB (bodyOf Tryd.f24) [1,1,0,1,0,0,1,0,1,0,1,1,1,0,1,0,0]=true:=by kernel_rfl
       refine Dw (fun w' => Has mk531 w' ∧ w'.heap[g0]?=some (.cells [.slice A_1_529 b.length c_2_529,.int .i64 (IntKind.i64.wrap (at_+1)),.int .i64 e_,.slice A0_3 r_.f_l.length c0_3,.bool full,.bool more].toArray 56 (0,0))) H ?_
       intro w541 H
       refine Sk hst [0,1,2,3,5,6] [0,1,2,3,5,6] [(0,.pointer (some ⟨g0,0,none⟩)),(3,.slice A_3_529 b1.length c_4_529),(4,.int .i64 r_.f_text.f_at),(72,.pointer (some ⟨g0,1,none⟩)),(75,.int .i64 (IntKind.i64.wrap (r_.f_text.f_at+1)))] ?_
       refine Sd (i:=4) ⟨H.has,H.blk 0 rfl⟩ (Lr (some 73) 3 ⟨g0,1,none⟩ (.int .i64 (IntKind.i64.wrap (at_+1))) (H.cellB 0 rfl rfl) ?_)
       refine Sk hst [7] [0,1,2,3,5,6,4,7] [(0,.pointer (some ⟨g0,0,none⟩)),(3,.slice A_3_529 b1.length c_4_529),(4,.int .i64 r_.f_text.f_at),(76,.bool ((IntKind.i64.wrap (at_+1)) == (IntKind.i64.wrap (r_.f_text.f_at+1))))] ?_
       rw [show ((IntKind.i64.wrap (at_+1)) == (IntKind.i64.wrap (r_.f_text.f_at+1)))=true from hb539]
       refine Sk hst [8,9,10,11,12,14,15,16,17] [0,1,2,3,5,6,4,7,8,9,10,11,12,14,15,16,17] [(0,.pointer (some ⟨g0,0,none⟩)),(3,.slice A_3_529 b1.length c_4_529),(4,.int .i64 r_.f_text.f_at),(77,.bool true),(81,.pointer (some ⟨g0,1,none⟩)),(86,.pointer (some ⟨g0,0,none⟩))] ?_
       refine Tk (i:=13) (d:=(some 82)) (s:=vS (Instr.loadAt 3 (.pointer (some ⟨g0,1,none⟩)))) (v:=(.int .i64 (IntKind.i64.wrap (at_+1)))) hst (fun w' hw' => ld_run _ _ _ (by kernel_rfl) (blk_cell hw'.2 rfl)) ?_
       refine Sd (i:=18) ⟨H.has,H.blk 0 rfl⟩ (Lr (some 87) 25 ⟨g0,0,none⟩ (.slice A_1_529 b.length c_2_529) (H.cellB 0 rfl rfl) ?_)
       refine Sk hst [19,20] [0,1,2,3,5,6,4,7,8,9,10,11,12,14,15,16,17,13,18,19,20] [(0,.pointer (some ⟨g0,0,none⟩)),(3,.slice A_3_529 b1.length c_4_529),(4,.int .i64 r_.f_text.f_at),(77,.bool true),(89,.bool ((IntKind.i64.wrap (at_+1)) == (b.length:Int)))] ?_
       rw [show ((IntKind.i64.wrap (at_+1)) == (b.length:Int))=true from hb540]
       refine Sk hst [21,22,23,24,25,26,27,28,29,30,31,32,33,34,35] [0,1,2,3,5,6,4,7,8,9,10,11,12,14,15,16,17,13,18,19,20,21,22,23,24,25,26,27,28,29,30,31,32,33,34,35] [(0,.pointer (some ⟨g0,0,none⟩)),(3,.slice A_3_529 b1.length c_4_529),(4,.int .i64 r_.f_text.f_at),(104,.bool true)] ?_
       refine Ed ⟨H.has,H.blk 0 rfl⟩ ?_
       refine Sg 5 [.co [1,1,0,1,0,0,1,0,1,0,1,1,1,0,1,0,1,0,1],.co [1,1,0,1,0,0,1,0,1,0,1,1,1,0,1,1],.bl 2,.bl 1,.le 1,.bl 0,.le 0,.co [1,1,1]] [(2,.string ⟨([]:List UInt8).toArray⟩)] ?_
       refine Rr [2] [.string ⟨([]:List UInt8).toArray⟩] ?_
       obtain rfl:(([]:List UInt8),({ f_text:=({ f_b:=b,f_at:=(IntKind.i64.wrap (at_+1)),f_e:=e_ }:TManifestText),f_l:=r_.f_l,f_full:=full,f_more:=more }:TManifestReader))=r:=(hfr440 _ (hfin528 _ (Option.some.inj hb_528).symm).symm)
       exact ⟨_,rfl,A_1_529,c_2_529,mk531,rfl,(St.takeN 1 H),(hs529_0.mono hsub531),(Nat.le_of_ble_eq_true rfl)⟩
      ·obtain ⟨peek1,h_peek1,hb_528⟩:=bindE hb_528
       rcases condT hb_528 with ⟨hb543,hb_528⟩ | ⟨hb543,hb_528⟩
       ·have hst:statB (bodyOf Tryd.f24) [1,1,0,1,0,0,1,0,1,0,1,1,1,0,1,0,0]=true:=by kernel_rfl
        refine Dw (fun w' => Has mk531 w' ∧ w'.heap[g0]?=some (.cells [.slice A_1_529 b.length c_2_529,.int .i64 (IntKind.i64.wrap (at_+1)),.int .i64 e_,.slice A0_3 r_.f_l.length c0_3,.bool full,.bool more].toArray 56 (0,0))) H ?_
        intro w545 H
        refine Sk hst [0,1,2,3,5,6] [0,1,2,3,5,6] [(0,.pointer (some ⟨g0,0,none⟩)),(3,.slice A_3_529 b1.length c_4_529),(4,.int .i64 r_.f_text.f_at),(72,.pointer (some ⟨g0,1,none⟩)),(75,.int .i64 (IntKind.i64.wrap (r_.f_text.f_at+1)))] ?_
        refine Sd (i:=4) ⟨H.has,H.blk 0 rfl⟩ (Lr (some 73) 3 ⟨g0,1,none⟩ (.int .i64 (IntKind.i64.wrap (at_+1))) (H.cellB 0 rfl rfl) ?_)
        refine Sk hst [7] [0,1,2,3,5,6,4,7] [(0,.pointer (some ⟨g0,0,none⟩)),(3,.slice A_3_529 b1.length c_4_529),(4,.int .i64 r_.f_text.f_at),(76,.bool ((IntKind.i64.wrap (at_+1)) == (IntKind.i64.wrap (r_.f_text.f_at+1))))] ?_
        rw [show ((IntKind.i64.wrap (at_+1)) == (IntKind.i64.wrap (r_.f_text.f_at+1)))=true from hb539]
        refine Sk hst [8,9,10,11,12,14,15,16,17] [0,1,2,3,5,6,4,7,8,9,10,11,12,14,15,16,17] [(0,.pointer (some ⟨g0,0,none⟩)),(3,.slice A_3_529 b1.length c_4_529),(4,.int .i64 r_.f_text.f_at),(77,.bool true),(81,.pointer (some ⟨g0,1,none⟩)),(86,.pointer (some ⟨g0,0,none⟩))] ?_
        refine Tk (i:=13) (d:=(some 82)) (s:=vS (Instr.loadAt 3 (.pointer (some ⟨g0,1,none⟩)))) (v:=(.int .i64 (IntKind.i64.wrap (at_+1)))) hst (fun w' hw' => ld_run _ _ _ (by kernel_rfl) (blk_cell hw'.2 rfl)) ?_
        refine Sd (i:=18) ⟨H.has,H.blk 0 rfl⟩ (Lr (some 87) 25 ⟨g0,0,none⟩ (.slice A_1_529 b.length c_2_529) (H.cellB 0 rfl rfl) ?_)
        refine Sk hst [19,20] [0,1,2,3,5,6,4,7,8,9,10,11,12,14,15,16,17,13,18,19,20] [(0,.pointer (some ⟨g0,0,none⟩)),(3,.slice A_3_529 b1.length c_4_529),(4,.int .i64 r_.f_text.f_at),(77,.bool true),(89,.bool ((IntKind.i64.wrap (at_+1)) == (b.length:Int)))] ?_
        rw [show ((IntKind.i64.wrap (at_+1)) == (b.length:Int))=false from hb540]
        refine Sk hst [21,22,23,24] [0,1,2,3,5,6,4,7,8,9,10,11,12,14,15,16,17,13,18,19,20,21,22,23,24] [(0,.pointer (some ⟨g0,0,none⟩)),(3,.slice A_3_529 b1.length c_4_529),(4,.int .i64 r_.f_text.f_at),(77,.bool true),(90,.bool false),(93,.pointer (some ⟨g0,0,none⟩))] ?_
        obtain ⟨F546,hse546,hFn546,hcl546⟩:=St.call [blkI g0 [.slice A_1_529 b.length c_2_529,.int .i64 (IntKind.i64.wrap (at_+1)),.int .i64 e_,.slice A0_3 r_.f_l.length c0_3,.bool full,.bool more] 56] H
        refine Sd (i:=25) ⟨H.has,H.blk 0 rfl⟩ (Cl (some 94) 37 #[.pointer (some ⟨g0,0,none⟩)] Tryd.call37 (manifest_text_peek_c H.has g0 ({ f_text:=({ f_b:=b,f_at:=(IntKind.i64.wrap (at_+1)),f_e:=e_ }:TManifestText),f_l:=r_.f_l,f_full:=full,f_more:=more }:TManifestReader) A_1_529 c_2_529 (hs529_0.mono hsub531) A0_3 c0_3 hse546 hFn546 h_peek1) ?_)
        rintro _ w546 ⟨mk546,rfl,hS546⟩
        have hsub546:=hS546.sub
        replace H:=hcl546 _ _ _ hS546
        refine Sk hst [26] [0,1,2,3,5,6,4,7,8,9,10,11,12,14,15,16,17,13,18,19,20,21,22,23,24,25,26] [(0,.pointer (some ⟨g0,0,none⟩)),(3,.slice A_3_529 b1.length c_4_529),(4,.int .i64 r_.f_text.f_at),(77,.bool true),(90,.bool false),(95,.bool ((peek1.toNat:Int) == 32))] ?_
        rw [show ((peek1.toNat:Int) == 32)=true from hb543]
        refine Sk hst [27,28,29,30,31,32,33,34,35] [0,1,2,3,5,6,4,7,8,9,10,11,12,14,15,16,17,13,18,19,20,21,22,23,24,25,26,27,28,29,30,31,32,33,34,35] [(0,.pointer (some ⟨g0,0,none⟩)),(3,.slice A_3_529 b1.length c_4_529),(4,.int .i64 r_.f_text.f_at),(104,.bool true)] ?_
        refine Ed ⟨(H.has.sub hsub546),H.blk 0 rfl⟩ ?_
        refine Sg 5 [.co [1,1,0,1,0,0,1,0,1,0,1,1,1,0,1,0,1,0,1],.co [1,1,0,1,0,0,1,0,1,0,1,1,1,0,1,1],.bl 2,.bl 1,.le 1,.bl 0,.le 0,.co [1,1,1]] [(2,.string ⟨([]:List UInt8).toArray⟩)] ?_
        refine Rr [2] [.string ⟨([]:List UInt8).toArray⟩] ?_
        obtain rfl:(([]:List UInt8),({ f_text:=({ f_b:=b,f_at:=(IntKind.i64.wrap (at_+1)),f_e:=e_ }:TManifestText),f_l:=r_.f_l,f_full:=full,f_more:=more }:TManifestReader))=r:=(hfr440 _ (hfin528 _ (Option.some.inj hb_528).symm).symm)
        exact ⟨_,rfl,A_1_529,c_2_529,mk546,rfl,(St.takeN 1 H),(hs529_0.mono (hsub531.trans hsub546)),(Nat.le_of_ble_eq_true rfl)⟩
       ·obtain ⟨peek2,h_peek2,hb_528⟩:=bindE hb_528
        have hst:statB (bodyOf Tryd.f24) [1,1,0,1,0,0,1,0,1,0,1,1,1,0,1,0,0]=true:=by kernel_rfl
        refine Dw (fun w' => Has mk531 w' ∧ w'.heap[g0]?=some (.cells [.slice A_1_529 b.length c_2_529,.int .i64 (IntKind.i64.wrap (at_+1)),.int .i64 e_,.slice A0_3 r_.f_l.length c0_3,.bool full,.bool more].toArray 56 (0,0))) H ?_
        intro w549 H
        refine Sk hst [0,1,2,3,5,6] [0,1,2,3,5,6] [(0,.pointer (some ⟨g0,0,none⟩)),(3,.slice A_3_529 b1.length c_4_529),(4,.int .i64 r_.f_text.f_at),(72,.pointer (some ⟨g0,1,none⟩)),(75,.int .i64 (IntKind.i64.wrap (r_.f_text.f_at+1)))] ?_
        replace H:St w F m mk531 [blkI g0 [.slice A_1_529 b.length c_2_529,.int .i64 (IntKind.i64.wrap (at_+1)),.int .i64 e_,.slice A0_3 r_.f_l.length c0_3,.bool full,.bool more] 56,rowI rU8 5 A_3_529 c_4_529 b1] w549:=H
        refine Sd (i:=4) ⟨H.has,H.blk 0 rfl⟩ (Lr (some 73) 3 ⟨g0,1,none⟩ (.int .i64 (IntKind.i64.wrap (at_+1))) (H.cellB 0 rfl rfl) ?_)
        refine Sk hst [7] [0,1,2,3,5,6,4,7] [(0,.pointer (some ⟨g0,0,none⟩)),(3,.slice A_3_529 b1.length c_4_529),(4,.int .i64 r_.f_text.f_at),(76,.bool ((IntKind.i64.wrap (at_+1)) == (IntKind.i64.wrap (r_.f_text.f_at+1))))] ?_
        rw [show ((IntKind.i64.wrap (at_+1)) == (IntKind.i64.wrap (r_.f_text.f_at+1)))=true from hb539]
        refine Sk hst [8,9,10,11,12,14,15,16,17] [0,1,2,3,5,6,4,7,8,9,10,11,12,14,15,16,17] [(0,.pointer (some ⟨g0,0,none⟩)),(3,.slice A_3_529 b1.length c_4_529),(4,.int .i64 r_.f_text.f_at),(77,.bool true),(81,.pointer (some ⟨g0,1,none⟩)),(86,.pointer (some ⟨g0,0,none⟩))] ?_
        refine Tk (i:=13) (d:=(some 82)) (s:=vS (Instr.loadAt 3 (.pointer (some ⟨g0,1,none⟩)))) (v:=(.int .i64 (IntKind.i64.wrap (at_+1)))) hst (fun w' hw' => ld_run _ _ _ (by kernel_rfl) (blk_cell hw'.2 rfl)) ?_
        refine Sd (i:=18) ⟨H.has,H.blk 0 rfl⟩ (Lr (some 87) 25 ⟨g0,0,none⟩ (.slice A_1_529 b.length c_2_529) (H.cellB 0 rfl rfl) ?_)
        refine Sk hst [19,20] [0,1,2,3,5,6,4,7,8,9,10,11,12,14,15,16,17,13,18,19,20] [(0,.pointer (some ⟨g0,0,none⟩)),(3,.slice A_3_529 b1.length c_4_529),(4,.int .i64 r_.f_text.f_at),(77,.bool true),(89,.bool ((IntKind.i64.wrap (at_+1)) == (b.length:Int)))] ?_
        rw [show ((IntKind.i64.wrap (at_+1)) == (b.length:Int))=false from hb540]
        refine Sk hst [21,22,23,24] [0,1,2,3,5,6,4,7,8,9,10,11,12,14,15,16,17,13,18,19,20,21,22,23,24] [(0,.pointer (some ⟨g0,0,none⟩)),(3,.slice A_3_529 b1.length c_4_529),(4,.int .i64 r_.f_text.f_at),(77,.bool true),(90,.bool false),(93,.pointer (some ⟨g0,0,none⟩))] ?_
        obtain ⟨F550,hse550,hFn550,hcl550⟩:=St.call [blkI g0 [.slice A_1_529 b.length c_2_529,.int .i64 (IntKind.i64.wrap (at_+1)),.int .i64 e_,.slice A0_3 r_.f_l.length c0_3,.bool full,.bool more] 56] H
        refine Sd (i:=25) ⟨H.has,H.blk 0 rfl⟩ (Cl (some 94) 37 #[.pointer (some ⟨g0,0,none⟩)] Tryd.call37 (manifest_text_peek_c H.has g0 ({ f_text:=({ f_b:=b,f_at:=(IntKind.i64.wrap (at_+1)),f_e:=e_ }:TManifestText),f_l:=r_.f_l,f_full:=full,f_more:=more }:TManifestReader) A_1_529 c_2_529 (hs529_0.mono hsub531) A0_3 c0_3 hse550 hFn550 h_peek1) ?_)
        rintro _ w550 ⟨mk550,rfl,hS550⟩
        have hsub550:=hS550.sub
        replace H:=hcl550 _ _ _ hS550
        refine Sk hst [26] [0,1,2,3,5,6,4,7,8,9,10,11,12,14,15,16,17,13,18,19,20,21,22,23,24,25,26] [(0,.pointer (some ⟨g0,0,none⟩)),(3,.slice A_3_529 b1.length c_4_529),(4,.int .i64 r_.f_text.f_at),(77,.bool true),(90,.bool false),(95,.bool ((peek1.toNat:Int) == 32))] ?_
        rw [show ((peek1.toNat:Int) == 32)=false from hb543]
        refine Sk hst [27,28,29,30,31] [0,1,2,3,5,6,4,7,8,9,10,11,12,14,15,16,17,13,18,19,20,21,22,23,24,25,26,27,28,29,30,31] [(0,.pointer (some ⟨g0,0,none⟩)),(3,.slice A_3_529 b1.length c_4_529),(4,.int .i64 r_.f_text.f_at),(77,.bool true),(97,.bool false),(100,.pointer (some ⟨g0,0,none⟩))] ?_
        obtain ⟨F551,hse551,hFn551,hcl551⟩:=St.call [blkI g0 [.slice A_1_529 b.length c_2_529,.int .i64 (IntKind.i64.wrap (at_+1)),.int .i64 e_,.slice A0_3 r_.f_l.length c0_3,.bool full,.bool more] 56] H
        refine Sd (i:=32) ⟨(H.has.sub hsub550),H.blk 0 rfl⟩ (Cl (some 101) 37 #[.pointer (some ⟨g0,0,none⟩)] Tryd.call37 (manifest_text_peek_c H.has g0 ({ f_text:=({ f_b:=b,f_at:=(IntKind.i64.wrap (at_+1)),f_e:=e_ }:TManifestText),f_l:=r_.f_l,f_full:=full,f_more:=more }:TManifestReader) A_1_529 c_2_529 (hs529_0.mono (hsub531.trans hsub550)) A0_3 c0_3 hse551 hFn551 h_peek2) ?_)
        rintro _ w551 ⟨mk551,rfl,hS551⟩
        have hsub551:=hS551.sub
        replace H:=hcl551 _ _ _ hS551
        refine Sk hst [33] [0,1,2,3,5,6,4,7,8,9,10,11,12,14,15,16,17,13,18,19,20,21,22,23,24,25,26,27,28,29,30,31,32,33] [(0,.pointer (some ⟨g0,0,none⟩)),(3,.slice A_3_529 b1.length c_4_529),(4,.int .i64 r_.f_text.f_at),(77,.bool true),(97,.bool false),(102,.bool ((peek2.toNat:Int) == 10))] ?_
        refine Sk hst [34] [0,1,2,3,5,6,4,7,8,9,10,11,12,14,15,16,17,13,18,19,20,21,22,23,24,25,26,27,28,29,30,31,32,33,34] [(0,.pointer (some ⟨g0,0,none⟩)),(3,.slice A_3_529 b1.length c_4_529),(4,.int .i64 r_.f_text.f_at),(77,.bool true),(103,.bool ((peek2.toNat:Int) == 10))] ?_
        refine Sk hst [35] [0,1,2,3,5,6,4,7,8,9,10,11,12,14,15,16,17,13,18,19,20,21,22,23,24,25,26,27,28,29,30,31,32,33,34,35] [(0,.pointer (some ⟨g0,0,none⟩)),(3,.slice A_3_529 b1.length c_4_529),(4,.int .i64 r_.f_text.f_at),(104,.bool ((peek2.toNat:Int) == 10))] ?_
        refine Ed ⟨(H.has.sub (hsub550.trans hsub551)),H.blk 0 rfl⟩ ?_
        rcases condT hb_528 with ⟨hb552,hb_528⟩ | ⟨hb552,hb_528⟩
        ·rw [hb552]
         refine Sg 5 [.co [1,1,0,1,0,0,1,0,1,0,1,1,1,0,1,0,1,0,1],.co [1,1,0,1,0,0,1,0,1,0,1,1,1,0,1,1],.bl 2,.bl 1,.le 1,.bl 0,.le 0,.co [1,1,1]] [(2,.string ⟨([]:List UInt8).toArray⟩)] ?_
         refine Rr [2] [.string ⟨([]:List UInt8).toArray⟩] ?_
         obtain rfl:(([]:List UInt8),({ f_text:=({ f_b:=b,f_at:=(IntKind.i64.wrap (at_+1)),f_e:=e_ }:TManifestText),f_l:=r_.f_l,f_full:=full,f_more:=more }:TManifestReader))=r:=(hfr440 _ (hfin528 _ (Option.some.inj hb_528).symm).symm)
         exact ⟨_,rfl,A_1_529,c_2_529,mk551,rfl,(St.takeN 1 H),(hs529_0.mono ((hsub531.trans hsub550).trans hsub551)),(Nat.le_of_ble_eq_true rfl)⟩
        ·rw [hb552]
         refine Sg 8 [.op [1,1,0,1,0,0,1,0,1,0,1,1,1,0,1,1,0] 4,.co [1,1,0,1,0,0,1,0,1,0,1,1,1,0,1,1,1],.bl 2,.bl 1,.le 1,.bl 0,.le 0,.co [1,1,1]] [(0,.pointer (some ⟨g0,0,none⟩)),(3,.slice A_3_529 b1.length c_4_529),(4,.int .i64 r_.f_text.f_at),(108,.pointer (some ⟨g0,1,none⟩))] ?_
         refine st (Lr (some 109) 3 ⟨g0,1,none⟩ (.int .i64 (IntKind.i64.wrap (at_+1))) (H.cellB 0 rfl rfl) ?_)
         refine Sg 5 [.op [1,1,0,1,0,0,1,0,1,0,1,1,1,0,1,1,1,0] 1,.co [1,1,0,1,0,0,1,0,1,0,1,1,1,0,1,1,1,1],.bl 2,.bl 1,.le 1,.bl 0,.le 0,.co [1,1,1]] [(0,.pointer (some ⟨g0,0,none⟩)),(3,.slice A_3_529 b1.length c_4_529),(4,.int .i64 r_.f_text.f_at),(6,.int .i64 (IntKind.i64.wrap (at_+1))),(110,.pointer (some ⟨g0,0,none⟩))] ?_
         obtain ⟨pair,h_pair,hb_528⟩:=bindE hb_528
         obtain ⟨F553,hse553,hFn553,hcl553⟩:=St.call [blkI g0 [.slice A_1_529 b.length c_2_529,.int .i64 (IntKind.i64.wrap (at_+1)),.int .i64 e_,.slice A0_3 r_.f_l.length c0_3,.bool full,.bool more] 56] H
         refine st (Cl (some 111) 38 #[.pointer (some ⟨g0,0,none⟩)] Tryd.call38 (manifest_reader_pair_c H.has g0 ({ f_text:=({ f_b:=b,f_at:=(IntKind.i64.wrap (at_+1)),f_e:=e_ }:TManifestText),f_l:=r_.f_l,f_full:=full,f_more:=more }:TManifestReader) A_1_529 c_2_529 (hs529_0.mono ((hsub531.trans hsub550).trans hsub551)) A0_3 c0_3 hse553 hFn553 h_pair) ?_)
         rintro _ w553 ⟨A553_o0_0,c553_o0_0,mk553,rfl,hS553,hs553_0⟩
         have hsub553:=hS553.sub
         replace H:=hcl553 _ _ _ hS553
         refine Sg 9 [.op [1,1,0,1,0,0,1,0,1,0,1,1,1,0,1,1,1,1,0,0] 4,.co [1,1,0,1,0,0,1,0,1,0,1,1,1,0,1,1,1,1,0,1],.co [1,1,0,1,0,0,1,0,1,0,1,1,1,0,1,1,1,1,1],.bl 2,.bl 1,.le 1,.bl 0,.le 0,.co [1,1,1]] [(0,.pointer (some ⟨g0,0,none⟩)),(3,.slice A_3_529 b1.length c_4_529),(4,.int .i64 r_.f_text.f_at),(6,.int .i64 (IntKind.i64.wrap (at_+1))),(7,.int .u8 (pair.1.toNat:Int)),(115,.pointer (some ⟨g0,2,none⟩))] ?_
         refine st (Lr (some 116) 26 ⟨g0,2,none⟩ (.int .i64 pair.2.f_text.f_e) (H.cellB 0 rfl rfl) ?_)
         refine Sg 2 [.op [1,1,0,1,0,0,1,0,1,0,1,1,1,0,1,1,1,1,0,0] 7,.co [1,1,0,1,0,0,1,0,1,0,1,1,1,0,1,1,1,1,0,1],.co [1,1,0,1,0,0,1,0,1,0,1,1,1,0,1,1,1,1,1],.bl 2,.bl 1,.le 1,.bl 0,.le 0,.co [1,1,1]] [(0,.pointer (some ⟨g0,0,none⟩)),(3,.slice A_3_529 b1.length c_4_529),(4,.int .i64 r_.f_text.f_at),(6,.int .i64 (IntKind.i64.wrap (at_+1))),(7,.int .u8 (pair.1.toNat:Int)),(118,.bool (pair.2.f_text.f_e == 0))] ?_
         rcases condT hb_528 with ⟨hb554,hb_528⟩ | ⟨hb554,hb_528⟩
         ·rw [hb554]
          refine Sg 1 [.op [1,1,0,1,0,0,1,0,1,0,1,1,1,0,1,1,1,1,0,0] 8,.co [1,1,0,1,0,0,1,0,1,0,1,1,1,0,1,1,1,1,0,1],.co [1,1,0,1,0,0,1,0,1,0,1,1,1,0,1,1,1,1,1],.bl 2,.bl 1,.le 1,.bl 0,.le 0,.co [1,1,1]] [(0,.pointer (some ⟨g0,0,none⟩)),(3,.slice A_3_529 b1.length c_4_529),(4,.int .i64 r_.f_text.f_at),(6,.int .i64 (IntKind.i64.wrap (at_+1))),(7,.int .u8 (pair.1.toNat:Int)),(118,.bool true),(119,.int .u8 (pair.1.toNat:Int))] ?_
          refine st (Cl (some 120) 23 #[.int .u8 (pair.1.toNat:Int)] Tryd.call23 (manifest_plain_c H.has pair.1) ?_)
          rintro _ w555 ⟨rfl,hx555⟩
          replace H:=H.ex hx555
          refine Sg 2 [.co [1,1,0,1,0,0,1,0,1,0,1,1,1,0,1,1,1,1,0,1],.co [1,1,0,1,0,0,1,0,1,0,1,1,1,0,1,1,1,1,1],.bl 2,.bl 1,.le 1,.bl 0,.le 0,.co [1,1,1]] [(0,.pointer (some ⟨g0,0,none⟩)),(3,.slice A_3_529 b1.length c_4_529),(4,.int .i64 r_.f_text.f_at),(6,.int .i64 (IntKind.i64.wrap (at_+1))),(7,.int .u8 (pair.1.toNat:Int)),(121,.bool (manifest_plain pair.1))] ?_
          rcases condT hb_528 with ⟨hb556,hb_528⟩ | ⟨hb556,hb_528⟩
          ·rw [hb556]
           refine Sg 7 [.op [1,1,0,1,0,0,1,0,1,0,1,1,1,0,1,1,1,1,0,1,0] 5,.co [1,1,0,1,0,0,1,0,1,0,1,1,1,0,1,1,1,1,1],.bl 2,.bl 1,.le 1,.bl 0,.le 0,.co [1,1,1]] [(0,.pointer (some ⟨g0,0,none⟩)),(3,.slice A_3_529 b1.length c_4_529),(4,.int .i64 r_.f_text.f_at),(7,.int .u8 (pair.1.toNat:Int)),(124,.pointer (some ⟨g0,0,none⟩)),(126,.int .i64 (IntKind.i64.wrap ((IntKind.i64.wrap (at_+1))+1)))] ?_
           replace H:St w F m mk553 [blkI g0 [.slice A553_o0_0 pair.2.f_text.f_b.length c553_o0_0,.int .i64 pair.2.f_text.f_at,.int .i64 pair.2.f_text.f_e,.slice A0_3 r_.f_l.length c0_3,.bool pair.2.f_full,.bool pair.2.f_more] 56,rowI rU8 5 A_3_529 c_4_529 b1] w555:=H
           obtain ⟨fail,h_fail,hb_528⟩:=bindE hb_528
           obtain ⟨F557,hse557,hFn557,hcl557⟩:=St.call [blkI g0 [.slice A553_o0_0 pair.2.f_text.f_b.length c553_o0_0,.int .i64 pair.2.f_text.f_at,.int .i64 pair.2.f_text.f_e,.slice A0_3 r_.f_l.length c0_3,.bool pair.2.f_full,.bool pair.2.f_more] 56] H
           refine st (Cl (some 127) 39 #[.pointer (some ⟨g0,0,none⟩),.int .i64 6,.int .i64 (IntKind.i64.wrap ((IntKind.i64.wrap (at_+1))+1))] Tryd.call39 (manifest_text_fail_c H.has g0 ({ f_text:=pair.2.f_text,f_l:=r_.f_l,f_full:=pair.2.f_full,f_more:=pair.2.f_more }:TManifestReader) A553_o0_0 c553_o0_0 A0_3 c0_3 6 (IntKind.i64.wrap ((IntKind.i64.wrap (at_+1))+1)) hse557 hFn557 h_fail) ?_)
           rintro _ w557 ⟨mk557,rfl,hS557⟩
           have hsub557:=hS557.sub
           replace H:=hcl557 _ _ _ hS557
           refine Sg 4 [.op [1,1,0,1,0,0,1,0,1,0,1,1,1,0,1,1,1,1,1] 2,.bl 2,.bl 1,.le 1,.bl 0,.le 0,.co [1,1,1]] [(0,.pointer (some ⟨g0,0,none⟩)),(4,.int .i64 r_.f_text.f_at),(128,.slice A_3_529 b1.length c_4_529),(129,.int .u8 (pair.1.toNat:Int))] ?_
           refine st (Nw (some 130) (fun g => .slice (some ⟨g,0,none⟩) 1 1) [.int .u8 (pair.1.toNat:Int)] 5 H ?_)
           intro g558 w558 H
           obtain ⟨b3,h_b3,hb_528⟩:=bindE hb_528
           refine st (appS (r:=rU8) (some 131) 25 5 1 (.int .u8 0) 25 2 A_3_529 (some ⟨g558,0,none⟩) c_4_529 1 1 b1 [pair.1] b3 _ H rfl ⟨Tryd.underlying25,by kernel_rfl⟩ rfl (by decide) (by kernel_rfl) (Cs.of_blk (H.blk 0 rfl)) (Rows.u8.2 rfl) rfl h_b3 (by decide) (by decide) ?_)
           intro A559 c559 w559 H
           replace H:=H.drop 0 rfl
           refine Sg 4 [.le 1,.bl 0,.le 0,.co [1,1,1]] [(0,.pointer (some ⟨g0,0,none⟩)),(3,.slice A559 b3.length c559),(4,.int .i64 r_.f_text.f_at)] ?_
           refine Lq (nk528,pair.2.f_text.f_b,fail.f_text.f_at,fail.f_text.f_e,fail.f_full,fail.f_more,b3,A553_o0_0,c553_o0_0,A559,c559,mk557) (Nat.lt_succ_self _) ⟨hnx528 _ (Option.some.inj hb_528).symm,H,(((((hsub529.trans hsub531).trans hsub550).trans hsub551).trans hsub553).trans hsub557),(hs553_0.mono hsub557)⟩
          ·rw [hb556]
           refine Sg 5 [.op [1,1,0,1,0,0,1,0,1,0,1,1,1,0,1,1,1,1,1] 2,.bl 2,.bl 1,.le 1,.bl 0,.le 0,.co [1,1,1]] [(0,.pointer (some ⟨g0,0,none⟩)),(4,.int .i64 r_.f_text.f_at),(128,.slice A_3_529 b1.length c_4_529),(129,.int .u8 (pair.1.toNat:Int))] ?_
           refine st (Nw (some 130) (fun g => .slice (some ⟨g,0,none⟩) 1 1) [.int .u8 (pair.1.toNat:Int)] 5 H ?_)
           intro g560 w560 H
           replace H:St w F m mk553 [blkI g560 [.int .u8 (pair.1.toNat:Int)] 5,blkI g0 [.slice A553_o0_0 pair.2.f_text.f_b.length c553_o0_0,.int .i64 pair.2.f_text.f_at,.int .i64 pair.2.f_text.f_e,.slice A0_3 r_.f_l.length c0_3,.bool pair.2.f_full,.bool pair.2.f_more] 56,rowI rU8 5 A_3_529 c_4_529 b1] w560:=H
           obtain ⟨b4,h_b4,hb_528⟩:=bindE hb_528
           refine st (appS (r:=rU8) (some 131) 25 5 1 (.int .u8 0) 25 2 A_3_529 (some ⟨g560,0,none⟩) c_4_529 1 1 b1 [pair.1] b4 _ H rfl ⟨Tryd.underlying25,by kernel_rfl⟩ rfl (by decide) (by kernel_rfl) (Cs.of_blk (H.blk 0 rfl)) (Rows.u8.2 rfl) rfl h_b4 (by decide) (by decide) ?_)
           intro A561 c561 w561 H
           replace H:=H.drop 0 rfl
           refine Sg 4 [.le 1,.bl 0,.le 0,.co [1,1,1]] [(0,.pointer (some ⟨g0,0,none⟩)),(3,.slice A561 b4.length c561),(4,.int .i64 r_.f_text.f_at)] ?_
           refine Lq (nk528,pair.2.f_text.f_b,pair.2.f_text.f_at,pair.2.f_text.f_e,pair.2.f_full,pair.2.f_more,b4,A553_o0_0,c553_o0_0,A561,c561,mk553) (Nat.lt_succ_self _) ⟨hnx528 _ (Option.some.inj hb_528).symm,H,((((hsub529.trans hsub531).trans hsub550).trans hsub551).trans hsub553),hs553_0⟩
         ·rw [hb554]
          refine Sg 9 [.op [1,1,0,1,0,0,1,0,1,0,1,1,1,0,1,1,1,1,1] 2,.bl 2,.bl 1,.le 1,.bl 0,.le 0,.co [1,1,1]] [(0,.pointer (some ⟨g0,0,none⟩)),(4,.int .i64 r_.f_text.f_at),(128,.slice A_3_529 b1.length c_4_529),(129,.int .u8 (pair.1.toNat:Int))] ?_
          refine st (Nw (some 130) (fun g => .slice (some ⟨g,0,none⟩) 1 1) [.int .u8 (pair.1.toNat:Int)] 5 H ?_)
          intro g562 w562 H
          obtain ⟨b5,h_b5,hb_528⟩:=bindE hb_528
          refine st (appS (r:=rU8) (some 131) 25 5 1 (.int .u8 0) 25 2 A_3_529 (some ⟨g562,0,none⟩) c_4_529 1 1 b1 [pair.1] b5 _ H rfl ⟨Tryd.underlying25,by kernel_rfl⟩ rfl (by decide) (by kernel_rfl) (Cs.of_blk (H.blk 0 rfl)) (Rows.u8.2 rfl) rfl h_b5 (by decide) (by decide) ?_)
          intro A563 c563 w563 H
          replace H:=H.drop 0 rfl
          refine Sg 4 [.le 1,.bl 0,.le 0,.co [1,1,1]] [(0,.pointer (some ⟨g0,0,none⟩)),(3,.slice A563 b5.length c563),(4,.int .i64 r_.f_text.f_at)] ?_
          refine Lq (nk528,pair.2.f_text.f_b,pair.2.f_text.f_at,pair.2.f_text.f_e,pair.2.f_full,pair.2.f_more,b5,A553_o0_0,c553_o0_0,A563,c563,mk553) (Nat.lt_succ_self _) ⟨hnx528 _ (Option.some.inj hb_528).symm,H,((((hsub529.trans hsub531).trans hsub550).trans hsub551).trans hsub553),hs553_0⟩
     ·have hst:statB (bodyOf Tryd.f24) [1,1,0,1,0,0,1,0,1,0,1,1,1,0,1,0,0]=true:=by kernel_rfl
      refine Dw (fun w' => Has mk531 w' ∧ w'.heap[g0]?=some (.cells [.slice A_1_529 b.length c_2_529,.int .i64 (IntKind.i64.wrap (at_+1)),.int .i64 e_,.slice A0_3 r_.f_l.length c0_3,.bool full,.bool more].toArray 56 (0,0))) H ?_
      intro w564 H
      refine Sk hst [0,1,2,3,5,6] [0,1,2,3,5,6] [(0,.pointer (some ⟨g0,0,none⟩)),(3,.slice A_3_529 b1.length c_4_529),(4,.int .i64 r_.f_text.f_at),(72,.pointer (some ⟨g0,1,none⟩)),(75,.int .i64 (IntKind.i64.wrap (r_.f_text.f_at+1)))] ?_
      refine Sd (i:=4) ⟨H.has,H.blk 0 rfl⟩ (Lr (some 73) 3 ⟨g0,1,none⟩ (.int .i64 (IntKind.i64.wrap (at_+1))) (H.cellB 0 rfl rfl) ?_)
      refine Sk hst [7] [0,1,2,3,5,6,4,7] [(0,.pointer (some ⟨g0,0,none⟩)),(3,.slice A_3_529 b1.length c_4_529),(4,.int .i64 r_.f_text.f_at),(76,.bool ((IntKind.i64.wrap (at_+1)) == (IntKind.i64.wrap (r_.f_text.f_at+1))))] ?_
      rw [show ((IntKind.i64.wrap (at_+1)) == (IntKind.i64.wrap (r_.f_text.f_at+1)))=false from hb539]
      refine Sk hst [8,9,10,11,12,13,14,15,16,17,18,19,20,21,22,23,24,25,26,27,28,29,30,31,32,33,34,35] [0,1,2,3,5,6,4,7,8,9,10,11,12,13,14,15,16,17,18,19,20,21,22,23,24,25,26,27,28,29,30,31,32,33,34,35] [(0,.pointer (some ⟨g0,0,none⟩)),(3,.slice A_3_529 b1.length c_4_529),(4,.int .i64 r_.f_text.f_at),(104,.bool false)] ?_
      refine Ed ⟨H.has,H.blk 0 rfl⟩ ?_
      refine Sg 8 [.op [1,1,0,1,0,0,1,0,1,0,1,1,1,0,1,1,0] 4,.co [1,1,0,1,0,0,1,0,1,0,1,1,1,0,1,1,1],.bl 2,.bl 1,.le 1,.bl 0,.le 0,.co [1,1,1]] [(0,.pointer (some ⟨g0,0,none⟩)),(3,.slice A_3_529 b1.length c_4_529),(4,.int .i64 r_.f_text.f_at),(108,.pointer (some ⟨g0,1,none⟩))] ?_
      refine st (Lr (some 109) 3 ⟨g0,1,none⟩ (.int .i64 (IntKind.i64.wrap (at_+1))) (H.cellB 0 rfl rfl) ?_)
      refine Sg 5 [.op [1,1,0,1,0,0,1,0,1,0,1,1,1,0,1,1,1,0] 1,.co [1,1,0,1,0,0,1,0,1,0,1,1,1,0,1,1,1,1],.bl 2,.bl 1,.le 1,.bl 0,.le 0,.co [1,1,1]] [(0,.pointer (some ⟨g0,0,none⟩)),(3,.slice A_3_529 b1.length c_4_529),(4,.int .i64 r_.f_text.f_at),(6,.int .i64 (IntKind.i64.wrap (at_+1))),(110,.pointer (some ⟨g0,0,none⟩))] ?_
      obtain ⟨pair1,h_pair1,hb_528⟩:=bindE hb_528
      obtain ⟨F565,hse565,hFn565,hcl565⟩:=St.call [blkI g0 [.slice A_1_529 b.length c_2_529,.int .i64 (IntKind.i64.wrap (at_+1)),.int .i64 e_,.slice A0_3 r_.f_l.length c0_3,.bool full,.bool more] 56] H
      refine st (Cl (some 111) 38 #[.pointer (some ⟨g0,0,none⟩)] Tryd.call38 (manifest_reader_pair_c H.has g0 ({ f_text:=({ f_b:=b,f_at:=(IntKind.i64.wrap (at_+1)),f_e:=e_ }:TManifestText),f_l:=r_.f_l,f_full:=full,f_more:=more }:TManifestReader) A_1_529 c_2_529 (hs529_0.mono hsub531) A0_3 c0_3 hse565 hFn565 h_pair1) ?_)
      rintro _ w565 ⟨A565_o0_0,c565_o0_0,mk565,rfl,hS565,hs565_0⟩
      have hsub565:=hS565.sub
      replace H:=hcl565 _ _ _ hS565
      refine Sg 9 [.op [1,1,0,1,0,0,1,0,1,0,1,1,1,0,1,1,1,1,0,0] 4,.co [1,1,0,1,0,0,1,0,1,0,1,1,1,0,1,1,1,1,0,1],.co [1,1,0,1,0,0,1,0,1,0,1,1,1,0,1,1,1,1,1],.bl 2,.bl 1,.le 1,.bl 0,.le 0,.co [1,1,1]] [(0,.pointer (some ⟨g0,0,none⟩)),(3,.slice A_3_529 b1.length c_4_529),(4,.int .i64 r_.f_text.f_at),(6,.int .i64 (IntKind.i64.wrap (at_+1))),(7,.int .u8 (pair1.1.toNat:Int)),(115,.pointer (some ⟨g0,2,none⟩))] ?_
      replace H:St w F m mk565 [blkI g0 [.slice A565_o0_0 pair1.2.f_text.f_b.length c565_o0_0,.int .i64 pair1.2.f_text.f_at,.int .i64 pair1.2.f_text.f_e,.slice A0_3 r_.f_l.length c0_3,.bool pair1.2.f_full,.bool pair1.2.f_more] 56,rowI rU8 5 A_3_529 c_4_529 b1] w565:=H
      refine st (Lr (some 116) 26 ⟨g0,2,none⟩ (.int .i64 pair1.2.f_text.f_e) (H.cellB 0 rfl rfl) ?_)
      refine Sg 2 [.op [1,1,0,1,0,0,1,0,1,0,1,1,1,0,1,1,1,1,0,0] 7,.co [1,1,0,1,0,0,1,0,1,0,1,1,1,0,1,1,1,1,0,1],.co [1,1,0,1,0,0,1,0,1,0,1,1,1,0,1,1,1,1,1],.bl 2,.bl 1,.le 1,.bl 0,.le 0,.co [1,1,1]] [(0,.pointer (some ⟨g0,0,none⟩)),(3,.slice A_3_529 b1.length c_4_529),(4,.int .i64 r_.f_text.f_at),(6,.int .i64 (IntKind.i64.wrap (at_+1))),(7,.int .u8 (pair1.1.toNat:Int)),(118,.bool (pair1.2.f_text.f_e == 0))] ?_
      rcases condT hb_528 with ⟨hb566,hb_528⟩ | ⟨hb566,hb_528⟩
      ·rw [hb566]
       refine Sg 1 [.op [1,1,0,1,0,0,1,0,1,0,1,1,1,0,1,1,1,1,0,0] 8,.co [1,1,0,1,0,0,1,0,1,0,1,1,1,0,1,1,1,1,0,1],.co [1,1,0,1,0,0,1,0,1,0,1,1,1,0,1,1,1,1,1],.bl 2,.bl 1,.le 1,.bl 0,.le 0,.co [1,1,1]] [(0,.pointer (some ⟨g0,0,none⟩)),(3,.slice A_3_529 b1.length c_4_529),(4,.int .i64 r_.f_text.f_at),(6,.int .i64 (IntKind.i64.wrap (at_+1))),(7,.int .u8 (pair1.1.toNat:Int)),(118,.bool true),(119,.int .u8 (pair1.1.toNat:Int))] ?_
       refine st (Cl (some 120) 23 #[.int .u8 (pair1.1.toNat:Int)] Tryd.call23 (manifest_plain_c H.has pair1.1) ?_)
       rintro _ w567 ⟨rfl,hx567⟩
       replace H:=H.ex hx567
       refine Sg 2 [.co [1,1,0,1,0,0,1,0,1,0,1,1,1,0,1,1,1,1,0,1],.co [1,1,0,1,0,0,1,0,1,0,1,1,1,0,1,1,1,1,1],.bl 2,.bl 1,.le 1,.bl 0,.le 0,.co [1,1,1]] [(0,.pointer (some ⟨g0,0,none⟩)),(3,.slice A_3_529 b1.length c_4_529),(4,.int .i64 r_.f_text.f_at),(6,.int .i64 (IntKind.i64.wrap (at_+1))),(7,.int .u8 (pair1.1.toNat:Int)),(121,.bool (manifest_plain pair1.1))] ?_
       rcases condT hb_528 with ⟨hb568,hb_528⟩ | ⟨hb568,hb_528⟩
       ·rw [hb568]
        refine Sg 7 [.op [1,1,0,1,0,0,1,0,1,0,1,1,1,0,1,1,1,1,0,1,0] 5,.co [1,1,0,1,0,0,1,0,1,0,1,1,1,0,1,1,1,1,1],.bl 2,.bl 1,.le 1,.bl 0,.le 0,.co [1,1,1]] [(0,.pointer (some ⟨g0,0,none⟩)),(3,.slice A_3_529 b1.length c_4_529),(4,.int .i64 r_.f_text.f_at),(7,.int .u8 (pair1.1.toNat:Int)),(124,.pointer (some ⟨g0,0,none⟩)),(126,.int .i64 (IntKind.i64.wrap ((IntKind.i64.wrap (at_+1))+1)))] ?_
        obtain ⟨fail1,h_fail1,hb_528⟩:=bindE hb_528
        obtain ⟨F569,hse569,hFn569,hcl569⟩:=St.call [blkI g0 [.slice A565_o0_0 pair1.2.f_text.f_b.length c565_o0_0,.int .i64 pair1.2.f_text.f_at,.int .i64 pair1.2.f_text.f_e,.slice A0_3 r_.f_l.length c0_3,.bool pair1.2.f_full,.bool pair1.2.f_more] 56] H
        refine st (Cl (some 127) 39 #[.pointer (some ⟨g0,0,none⟩),.int .i64 6,.int .i64 (IntKind.i64.wrap ((IntKind.i64.wrap (at_+1))+1))] Tryd.call39 (manifest_text_fail_c H.has g0 ({ f_text:=pair1.2.f_text,f_l:=r_.f_l,f_full:=pair1.2.f_full,f_more:=pair1.2.f_more }:TManifestReader) A565_o0_0 c565_o0_0 A0_3 c0_3 6 (IntKind.i64.wrap ((IntKind.i64.wrap (at_+1))+1)) hse569 hFn569 h_fail1) ?_)
        rintro _ w569 ⟨mk569,rfl,hS569⟩
        have hsub569:=hS569.sub
        replace H:=hcl569 _ _ _ hS569
        refine Sg 4 [.op [1,1,0,1,0,0,1,0,1,0,1,1,1,0,1,1,1,1,1] 2,.bl 2,.bl 1,.le 1,.bl 0,.le 0,.co [1,1,1]] [(0,.pointer (some ⟨g0,0,none⟩)),(4,.int .i64 r_.f_text.f_at),(128,.slice A_3_529 b1.length c_4_529),(129,.int .u8 (pair1.1.toNat:Int))] ?_
        refine st (Nw (some 130) (fun g => .slice (some ⟨g,0,none⟩) 1 1) [.int .u8 (pair1.1.toNat:Int)] 5 H ?_)
        intro g570 w570 H
        obtain ⟨b6,h_b6,hb_528⟩:=bindE hb_528
        refine st (appS (r:=rU8) (some 131) 25 5 1 (.int .u8 0) 25 2 A_3_529 (some ⟨g570,0,none⟩) c_4_529 1 1 b1 [pair1.1] b6 _ H rfl ⟨Tryd.underlying25,by kernel_rfl⟩ rfl (by decide) (by kernel_rfl) (Cs.of_blk (H.blk 0 rfl)) (Rows.u8.2 rfl) rfl h_b6 (by decide) (by decide) ?_)
        intro A571 c571 w571 H
        replace H:=H.drop 0 rfl
        refine Sg 4 [.le 1,.bl 0,.le 0,.co [1,1,1]] [(0,.pointer (some ⟨g0,0,none⟩)),(3,.slice A571 b6.length c571),(4,.int .i64 r_.f_text.f_at)] ?_
        refine Lq (nk528,pair1.2.f_text.f_b,fail1.f_text.f_at,fail1.f_text.f_e,fail1.f_full,fail1.f_more,b6,A565_o0_0,c565_o0_0,A571,c571,mk569) (Nat.lt_succ_self _) ⟨hnx528 _ (Option.some.inj hb_528).symm,H,(((hsub529.trans hsub531).trans hsub565).trans hsub569),(hs565_0.mono hsub569)⟩
       ·rw [hb568]
        refine Sg 5 [.op [1,1,0,1,0,0,1,0,1,0,1,1,1,0,1,1,1,1,1] 2,.bl 2,.bl 1,.le 1,.bl 0,.le 0,.co [1,1,1]] [(0,.pointer (some ⟨g0,0,none⟩)),(4,.int .i64 r_.f_text.f_at),(128,.slice A_3_529 b1.length c_4_529),(129,.int .u8 (pair1.1.toNat:Int))] ?_
        replace H:St w F m mk565 [blkI g0 [.slice A565_o0_0 pair1.2.f_text.f_b.length c565_o0_0,.int .i64 pair1.2.f_text.f_at,.int .i64 pair1.2.f_text.f_e,.slice A0_3 r_.f_l.length c0_3,.bool pair1.2.f_full,.bool pair1.2.f_more] 56,rowI rU8 5 A_3_529 c_4_529 b1] w567:=H
        refine st (Nw (some 130) (fun g => .slice (some ⟨g,0,none⟩) 1 1) [.int .u8 (pair1.1.toNat:Int)] 5 H ?_)
        intro g572 w572 H
        obtain ⟨b7,h_b7,hb_528⟩:=bindE hb_528
        refine st (appS (r:=rU8) (some 131) 25 5 1 (.int .u8 0) 25 2 A_3_529 (some ⟨g572,0,none⟩) c_4_529 1 1 b1 [pair1.1] b7 _ H rfl ⟨Tryd.underlying25,by kernel_rfl⟩ rfl (by decide) (by kernel_rfl) (Cs.of_blk (H.blk 0 rfl)) (Rows.u8.2 rfl) rfl h_b7 (by decide) (by decide) ?_)
        intro A573 c573 w573 H
        replace H:=H.drop 0 rfl
        refine Sg 4 [.le 1,.bl 0,.le 0,.co [1,1,1]] [(0,.pointer (some ⟨g0,0,none⟩)),(3,.slice A573 b7.length c573),(4,.int .i64 r_.f_text.f_at)] ?_
        refine Lq (nk528,pair1.2.f_text.f_b,pair1.2.f_text.f_at,pair1.2.f_text.f_e,pair1.2.f_full,pair1.2.f_more,b7,A565_o0_0,c565_o0_0,A573,c573,mk565) (Nat.lt_succ_self _) ⟨hnx528 _ (Option.some.inj hb_528).symm,H,((hsub529.trans hsub531).trans hsub565),hs565_0⟩
      ·rw [hb566]
       refine Sg 9 [.op [1,1,0,1,0,0,1,0,1,0,1,1,1,0,1,1,1,1,1] 2,.bl 2,.bl 1,.le 1,.bl 0,.le 0,.co [1,1,1]] [(0,.pointer (some ⟨g0,0,none⟩)),(4,.int .i64 r_.f_text.f_at),(128,.slice A_3_529 b1.length c_4_529),(129,.int .u8 (pair1.1.toNat:Int))] ?_
       refine st (Nw (some 130) (fun g => .slice (some ⟨g,0,none⟩) 1 1) [.int .u8 (pair1.1.toNat:Int)] 5 H ?_)
       intro g574 w574 H
       obtain ⟨b8,h_b8,hb_528⟩:=bindE hb_528
       refine st (appS (r:=rU8) (some 131) 25 5 1 (.int .u8 0) 25 2 A_3_529 (some ⟨g574,0,none⟩) c_4_529 1 1 b1 [pair1.1] b8 _ H rfl ⟨Tryd.underlying25,by kernel_rfl⟩ rfl (by decide) (by kernel_rfl) (Cs.of_blk (H.blk 0 rfl)) (Rows.u8.2 rfl) rfl h_b8 (by decide) (by decide) ?_)
       intro A575 c575 w575 H
       replace H:=H.drop 0 rfl
       refine Sg 4 [.le 1,.bl 0,.le 0,.co [1,1,1]] [(0,.pointer (some ⟨g0,0,none⟩)),(3,.slice A575 b8.length c575),(4,.int .i64 r_.f_text.f_at)] ?_
       refine Lq (nk528,pair1.2.f_text.f_b,pair1.2.f_text.f_at,pair1.2.f_text.f_e,pair1.2.f_full,pair1.2.f_more,b8,A565_o0_0,c565_o0_0,A575,c575,mk565) (Nat.lt_succ_self _) ⟨hnx528 _ (Option.some.inj hb_528).symm,H,((hsub529.trans hsub531).trans hsub565),hs565_0⟩
    ·rw [hb537]
     refine Sg 8 [.op [1,1,0,1,0,0,1,0,1,0,1,1,1,1,0,0] 4,.co [1,1,0,1,0,0,1,0,1,0,1,1,1,1,0,1],.co [1,1,0,1,0,0,1,0,1,0,1,1,1,1,1],.bl 2,.bl 1,.le 1,.bl 0,.le 0,.co [1,1,1]] [(0,.pointer (some ⟨g0,0,none⟩)),(3,.slice A_3_529 b1.length c_4_529),(4,.int .i64 r_.f_text.f_at),(26,.pointer (some ⟨g0,1,none⟩))] ?_
     replace H:St w F m mk531 [blkI g0 [.slice A_1_529 b.length c_2_529,.int .i64 at_,.int .i64 e_,.slice A0_3 r_.f_l.length c0_3,.bool full,.bool more] 56,rowI rU8 5 A_3_529 c_4_529 b1] w532:=H
     refine st (Lr (some 27) 3 ⟨g0,1,none⟩ (.int .i64 at_) (H.cellB 0 rfl rfl) ?_)
     refine Sg 3 [.co [1,1,0,1,0,0,1,0,1,0,1,1,1,1,0,1],.co [1,1,0,1,0,0,1,0,1,0,1,1,1,1,1],.bl 2,.bl 1,.le 1,.bl 0,.le 0,.co [1,1,1]] [(0,.pointer (some ⟨g0,0,none⟩)),(3,.slice A_3_529 b1.length c_4_529),(29,.bool (at_ == r_.f_text.f_at))] ?_
     rcases condT hb_528 with ⟨hb576,hb_528⟩ | ⟨hb576,hb_528⟩
     ·rw [hb576]
      refine Sg 1 [.co [1,1,0,1,0,0,1,0,1,0,1,1,1,1,0,1,0],.co [1,1,0,1,0,0,1,0,1,0,1,1,1,1,1],.bl 2,.bl 1,.le 1,.bl 0,.le 0,.co [1,1,1]] [(0,.pointer (some ⟨g0,0,none⟩)),(3,.slice A_3_529 b1.length c_4_529)] ?_
      obtain ⟨fail2,h_fail2,hb_528⟩:=bindE hb_528
      have hst:statB (bodyOf Tryd.f24) [1,1,0,1,0,0,1,0,1,0,1,1,1,1,0,1,0]=true:=by kernel_rfl
      refine Dw (Has mk531) H ?_
      intro w578 H
      refine Sk hst [0,1,2,3,4,5,6] [0,1,2,3,4,5,6] [(3,.slice A_3_529 b1.length c_4_529),(32,.pointer (some ⟨g0,0,none⟩)),(36,.pointer (some ⟨g0,1,none⟩))] ?_
      refine Sd (i:=7) H.has (Lr (some 37) 3 ⟨g0,1,none⟩ (.int .i64 at_) (H.cellB 0 rfl rfl) ?_)
      obtain ⟨F579,hse579,hFn579,hcl579⟩:=St.call [blkI g0 [.slice A_1_529 b.length c_2_529,.int .i64 at_,.int .i64 e_,.slice A0_3 r_.f_l.length c0_3,.bool full,.bool more] 56] H
      refine Sd (i:=8) H.has (Cl (some 38) 39 #[.pointer (some ⟨g0,0,none⟩),.int .i64 6,.int .i64 at_] Tryd.call39 (manifest_text_fail_c H.has g0 ({ f_text:=({ f_b:=b,f_at:=at_,f_e:=e_ }:TManifestText),f_l:=r_.f_l,f_full:=full,f_more:=more }:TManifestReader) A_1_529 c_2_529 A0_3 c0_3 6 at_ hse579 hFn579 h_fail2) ?_)
      rintro _ w579 ⟨mk579,rfl,hS579⟩
      have hsub579:=hS579.sub
      replace H:=hcl579 _ _ _ hS579
      refine Ed (H.has.sub hsub579) ?_
      refine Sg 3 [.op [1,1,0,1,0,0,1,0,1,0,1,1,1,1,1,0] 1,.co [1,1,0,1,0,0,1,0,1,0,1,1,1,1,1,1],.bl 2,.bl 1,.le 1,.bl 0,.le 0,.co [1,1,1]] [(39,.slice A_3_529 b1.length c_4_529)] ?_
      refine st (b2sS (some 40) 25 9 5 A_3_529 c_4_529 b1 Tryd.underlying25 Tryd.underlying5 Tryd.underlying9 (by kernel_rfl) (H.rowCs 1 rfl) ?_)
      have hl580:b1.length ≤ 9223372036854775807:=(Nat.le_trans (H.rowCap 1 rfl).1 (H.rowCap 1 rfl).2)
      refine Sg 2 [.co [1,1,0,1,0,0,1,0,1,0,1,1,1,1,1,1],.bl 2,.bl 1,.le 1,.bl 0,.le 0,.co [1,1,1]] [(2,.string ⟨b1.toArray⟩)] ?_
      refine Rr [2] [.string ⟨b1.toArray⟩] ?_
      obtain rfl:(b1,({ f_text:=({ f_b:=b,f_at:=fail2.f_text.f_at,f_e:=fail2.f_text.f_e }:TManifestText),f_l:=r_.f_l,f_full:=fail2.f_full,f_more:=fail2.f_more }:TManifestReader))=r:=(hfr440 _ (hfin528 _ (Option.some.inj hb_528).symm).symm)
      exact ⟨_,rfl,A_1_529,c_2_529,mk579,rfl,(St.takeN 1 H),(hs529_0.mono (hsub531.trans hsub579)),hl580⟩
     ·rw [hb576]
      refine Sg 5 [.op [1,1,0,1,0,0,1,0,1,0,1,1,1,1,1,0] 1,.co [1,1,0,1,0,0,1,0,1,0,1,1,1,1,1,1],.bl 2,.bl 1,.le 1,.bl 0,.le 0,.co [1,1,1]] [(39,.slice A_3_529 b1.length c_4_529)] ?_
      refine st (b2sS (some 40) 25 9 5 A_3_529 c_4_529 b1 Tryd.underlying25 Tryd.underlying5 Tryd.underlying9 (by kernel_rfl) (H.rowCs 1 rfl) ?_)
      have hl581:b1.length ≤ 9223372036854775807:=(Nat.le_trans (H.rowCap 1 rfl).1 (H.rowCap 1 rfl).2)
      refine Sg 2 [.co [1,1,0,1,0,0,1,0,1,0,1,1,1,1,1,1],.bl 2,.bl 1,.le 1,.bl 0,.le 0,.co [1,1,1]] [(2,.string ⟨b1.toArray⟩)] ?_
      refine Rr [2] [.string ⟨b1.toArray⟩] ?_
      obtain rfl:(b1,({ f_text:=({ f_b:=b,f_at:=at_,f_e:=e_ }:TManifestText),f_l:=r_.f_l,f_full:=full,f_more:=more }:TManifestReader))=r:=(hfr440 _ (hfin528 _ (Option.some.inj hb_528).symm).symm)
      exact ⟨_,rfl,A_1_529,c_2_529,mk531,rfl,(St.takeN 1 H),(hs529_0.mono hsub531),hl581⟩
  ·rw [hb530]
   refine Sg 2 [.le 0,.co [1,1,1]] [] ?_
   refine leR_up (k':=[]) (by rfl) ?_
   refine Lj (b,at_,e_,full,more,A_1_529,c_2_529,mm529) ⟨(hfin528 _ (Option.some.inj hb_528).symm).symm,(St.takeN 1 H),hsub529,hs529_0⟩
 rintro ⟨b,at_,e_,full,more,A_1_441,c_2_441,mm441⟩ wj440 ⟨hy440,H,hsub441,hs441_0⟩
 try dsimp only at hy440
 try dsimp only at H
 try dsimp only at hsub441
 try dsimp only at hs441_0
 have hf:=hfl440 _ hy440
 try dsimp only at hf
 refine Sg 4 [.co [1,1,1,1]] [(2,.string ⟨([]:List UInt8).toArray⟩)] ?_
 refine Rr [2] [.string ⟨([]:List UInt8).toArray⟩] ?_
 obtain rfl:(([]:List UInt8),({ f_text:=({ f_b:=b,f_at:=at_,f_e:=e_ }:TManifestText),f_l:=r_.f_l,f_full:=full,f_more:=more }:TManifestReader))=r:=(Option.some.inj hf)
 exact ⟨_,rfl,A_1_441,c_2_441,mm441,rfl,H,hs441_0,(Nat.le_of_ble_eq_true rfl)⟩
theorem manifest_reader_entry_c {m:Mem} {w:World} (hm:Has m w) (g0:Nat) (r_:TManifestReader) (A0_0:Option Addr) (c0_0:Nat) (s0_0:SlI rU8 m A0_0 c0_0 r_.f_text.f_b) (A0_3:Option Addr) (c0_3:Nat) (kind:Int) {F:Nat → Prop} (hsep:Sep m w [blkI g0 [.slice A0_0 r_.f_text.f_b.length c0_0,.int .i64 r_.f_text.f_at,.int .i64 r_.f_text.f_e,.slice A0_3 r_.f_l.length c0_3,.bool r_.f_full,.bool r_.f_more] 56,rowO oApiEntry 44 A0_3 c0_3 r_.f_l] F) (hF:∀ k,F k → m k=none) {r:TManifestReader} (hf:manifest_reader_entry r_ kind=some r) :
  Calls Tryd.prog 42 #[.pointer (some ⟨g0,0,none⟩),.int .i64 kind] w fun e w' => ∃ v,e=.returned v ∧ ∃ Az_o0_0:Option Addr,∃ cz_o0_0:Nat,∃ Az_o0_3:Option Addr,∃ cz_o0_3:Nat,∃ m':Mem,v=.tuple #[] ∧ St w F m m' [blkI g0 [.slice Az_o0_0 r.f_text.f_b.length cz_o0_0,.int .i64 r.f_text.f_at,.int .i64 r.f_text.f_e,.slice Az_o0_3 r.f_l.length cz_o0_3,.bool r.f_full,.bool r.f_more] 56,rowO oApiEntry 44 Az_o0_3 cz_o0_3 r.f_l] w' ∧ SlI rU8 m' Az_o0_0 cz_o0_0 r.f_text.f_b:=by
 unfold manifest_reader_entry at hf
 have H:=St.start hm hsep hF
 refine Fc Tryd.func42 ?_
 refine Sg 6 [.op [0,0] 3,.co [0,1],.co [1]] [(0,.pointer (some ⟨g0,0,none⟩)),(1,.int .i64 kind),(7,.pointer (some ⟨g0,3,none⟩))] ?_
 refine st (Lr (some 8) 22 ⟨g0,3,none⟩ (.slice A0_3 r_.f_l.length c0_3) (H.cellB 0 rfl rfl) ?_)
 refine Sg 3 [.co [0,1],.co [1]] [(0,.pointer (some ⟨g0,0,none⟩)),(1,.int .i64 kind),(10,.bool ((r_.f_l.length:Int) == 16384))] ?_
 rcases condT hf with ⟨hb3,hf⟩ | ⟨hb3,hf⟩
 ·rw [hb3]
  refine Sg 2 [.co [0,1,0,0],.co [0,1,0,1],.co [1]] [(0,.pointer (some ⟨g0,0,none⟩))] ?_
  obtain ⟨fail,h_fail,hf⟩:=bindE hf
  have hst:statB (bodyOf Tryd.f42) [0,1,0,0]=true:=by kernel_rfl
  refine Dw (Has m) H ?_
  intro w5 H
  refine Sk hst [0,1,2,3,4,5,6] [0,1,2,3,4,5,6] [(13,.pointer (some ⟨g0,0,none⟩)),(17,.pointer (some ⟨g0,1,none⟩))] ?_
  refine Sd (i:=7) H.has (Lr (some 18) 3 ⟨g0,1,none⟩ (.int .i64 r_.f_text.f_at) (H.cellB 0 rfl rfl) ?_)
  obtain ⟨F6,hse6,hFn6,hcl6⟩:=St.call [blkI g0 [.slice A0_0 r_.f_text.f_b.length c0_0,.int .i64 r_.f_text.f_at,.int .i64 r_.f_text.f_e,.slice A0_3 r_.f_l.length c0_3,.bool r_.f_full,.bool r_.f_more] 56] H
  refine Sd (i:=8) H.has (Cl (some 19) 39 #[.pointer (some ⟨g0,0,none⟩),.int .i64 3,.int .i64 r_.f_text.f_at] Tryd.call39 (manifest_text_fail_c H.has g0 r_ A0_0 c0_0 A0_3 c0_3 3 r_.f_text.f_at hse6 hFn6 h_fail) ?_)
  rintro _ w6 ⟨mk6,rfl,hS6⟩
  have hsub6:=hS6.sub
  replace H:=hcl6 _ _ _ hS6
  refine Ed (H.has.sub hsub6) ?_
  refine Rr [] [] ?_
  obtain rfl:({ f_text:=({ f_b:=r_.f_text.f_b,f_at:=fail.f_text.f_at,f_e:=fail.f_text.f_e }:TManifestText),f_l:=r_.f_l,f_full:=fail.f_full,f_more:=fail.f_more }:TManifestReader)=r:=(Option.some.inj hf)
  exact ⟨_,rfl,A0_0,c0_0,A0_3,c0_3,mk6,rfl,H,(s0_0.mono hsub6)⟩
 ·rw [hb3]
  refine Sg 8 [.op [1,0] 4,.co [1,1]] [(0,.pointer (some ⟨g0,0,none⟩)),(1,.int .i64 kind),(20,.pointer (some ⟨g0,0,none⟩)),(23,.pointer (some ⟨g0,1,none⟩))] ?_
  refine st (Lr (some 24) 3 ⟨g0,1,none⟩ (.int .i64 r_.f_text.f_at) (H.cellB 0 rfl rfl) ?_)
  refine Sg 4 [.op [1,0] 9,.co [1,1]] [(0,.pointer (some ⟨g0,0,none⟩)),(1,.int .i64 kind),(25,.int .i64 (IntKind.i64.wrap (r_.f_text.f_at+1))),(28,.pointer (some ⟨g0,1,none⟩))] ?_
  refine st (Ss none 3 0 g0 1 (.int .i64 (IntKind.i64.wrap (r_.f_text.f_at+1))) H rfl rfl (of_decide_eq_true rfl) ?_)
  intro w7 H
  refine Sg 5 [.op [1,1,0] 2,.co [1,1,1]] [(0,.pointer (some ⟨g0,0,none⟩)),(1,.int .i64 kind),(30,.agg #[.string ⟨([]:List UInt8).toArray⟩,.int .i64 kind,.int .i64 0,.int .i64 0,.int .i64 0,.int .i64 0,.int .i64 0,.slice none 0 0,.string ⟨([]:List UInt8).toArray⟩,.int .i64 0,.slice none 0 0])] ?_
  replace H:St w F m m [blkI g0 [.slice A0_0 r_.f_text.f_b.length c0_0,.int .i64 (IntKind.i64.wrap (r_.f_text.f_at+1)),.int .i64 r_.f_text.f_e,.slice A0_3 r_.f_l.length c0_3,.bool r_.f_full,.bool r_.f_more] 56,rowO oApiEntry 44 A0_3 c0_3 r_.f_l] w7:=H
  refine st (Nw (some 4) (fun g => .pointer (some ⟨g,0,none⟩)) [.string ⟨([]:List UInt8).toArray⟩,.int .i64 0,.int .i64 0,.int .i64 0,.int .i64 0,.int .i64 0,.int .i64 0,.slice none 0 0,.string ⟨([]:List UInt8).toArray⟩,.int .i64 0,.slice none 0 0] 44 H ?_)
  intro g9 w9 H
  refine st (Sa none 44 0 g9 0 [.string ⟨([]:List UInt8).toArray⟩,.int .i64 kind,.int .i64 0,.int .i64 0,.int .i64 0,.int .i64 0,.int .i64 0,.slice none 0 0,.string ⟨([]:List UInt8).toArray⟩,.int .i64 0,.slice none 0 0] [.string ⟨([]:List UInt8).toArray⟩,.int .i64 kind,.int .i64 0,.int .i64 0,.int .i64 0,.int .i64 0,.int .i64 0,.slice none 0 0,.string ⟨([]:List UInt8).toArray⟩,.int .i64 0,.slice none 0 0] H rfl (by rfl) (of_decide_eq_true rfl) rfl ?_)
  intro w10 H
  refine Sg 7 [.co [1,1,1,0,1],.co [1,1,1,1]] [(0,.pointer (some ⟨g0,0,none⟩)),(1,.int .i64 kind),(4,.pointer (some ⟨g9,0,none⟩)),(32,.bool (kind != 6))] ?_
  obtain ⟨y116,hp116,hf⟩:=bindE hf
  refine joinR 0 (fun (x:(List UInt8) × Int × Int × Bool × Bool × Int × Int × Int × Int × Option Addr × Nat × Mem) => [(0,.pointer (some ⟨g0,0,none⟩)),(1,.int .i64 kind),(4,.pointer (some ⟨g9,0,none⟩))]) (fun (x:(List UInt8) × Int × Int × Bool × Bool × Int × Int × Int × Int × Option Addr × Nat × Mem) (wj116:World) => y116=(x.1,x.2.1,x.2.2.1,x.2.2.2.1,x.2.2.2.2.1,x.2.2.2.2.2.1,x.2.2.2.2.2.2.1,x.2.2.2.2.2.2.2.1,x.2.2.2.2.2.2.2.2.1) ∧ St w F m x.2.2.2.2.2.2.2.2.2.2.2 [blkI g0 [.slice (x.2.2.2.2.2.2.2.2.2.1) x.1.length (x.2.2.2.2.2.2.2.2.2.2.1),.int .i64 x.2.1,.int .i64 x.2.2.1,.slice A0_3 r_.f_l.length c0_3,.bool x.2.2.2.1,.bool x.2.2.2.2.1] 56,rowO oApiEntry 44 A0_3 c0_3 r_.f_l,blkI g9 [.string ⟨([]:List UInt8).toArray⟩,.int .i64 kind,.int .i64 x.2.2.2.2.2.1,.int .i64 x.2.2.2.2.2.2.1,.int .i64 x.2.2.2.2.2.2.2.1,.int .i64 x.2.2.2.2.2.2.2.2.1,.int .i64 0,.slice none 0 0,.string ⟨([]:List UInt8).toArray⟩,.int .i64 0,.slice none 0 0] 44] wj116 ∧ Sub m x.2.2.2.2.2.2.2.2.2.2.2 ∧ SlI rU8 x.2.2.2.2.2.2.2.2.2.2.2 x.2.2.2.2.2.2.2.2.2.1 x.2.2.2.2.2.2.2.2.2.2.1 x.1) (by kernel_rfl) ?_ ?_
  ·rcases condT hp116 with ⟨hb118,hp116⟩ | ⟨hb118,hp116⟩
   ·rw [hb118]
    refine Sg 4 [.op [1,1,1,0,1,0,0] 1,.co [1,1,1,0,1,0,1],.le 0,.co [1,1,1,1]] [(0,.pointer (some ⟨g0,0,none⟩)),(1,.int .i64 kind),(4,.pointer (some ⟨g9,0,none⟩)),(33,.pointer (some ⟨g0,0,none⟩))] ?_
    obtain ⟨number,h_number,hp116⟩:=bindE hp116
    obtain ⟨F119,hse119,hFn119,hcl119⟩:=St.call [blkI g0 [.slice A0_0 r_.f_text.f_b.length c0_0,.int .i64 (IntKind.i64.wrap (r_.f_text.f_at+1)),.int .i64 r_.f_text.f_e,.slice A0_3 r_.f_l.length c0_3,.bool r_.f_full,.bool r_.f_more] 56] (H.pull 1 rfl)
    refine st (Cl (some 34) 49 #[.pointer (some ⟨g0,0,none⟩),.int .i64 8] Tryd.call49 (manifest_reader_number_c H.has g0 ({ f_text:=({ f_b:=r_.f_text.f_b,f_at:=(IntKind.i64.wrap (r_.f_text.f_at+1)),f_e:=r_.f_text.f_e }:TManifestText),f_l:=r_.f_l,f_full:=r_.f_full,f_more:=r_.f_more }:TManifestReader) A0_0 c0_0 s0_0 A0_3 c0_3 8 hse119 hFn119 h_number) ?_)
    rintro _ w119 ⟨A119_o0_0,c119_o0_0,mk119,rfl,hS119,hs119_0⟩
    have hsub119:=hS119.sub
    replace H:=hcl119 _ _ _ hS119
    refine Sg 1 [.op [1,1,1,0,1,0,0] 3,.co [1,1,1,0,1,0,1],.le 0,.co [1,1,1,1]] [(0,.pointer (some ⟨g0,0,none⟩)),(1,.int .i64 kind),(4,.pointer (some ⟨g9,0,none⟩)),(34,.int .i64 number.1),(35,.pointer (some ⟨g9,2,none⟩))] ?_
    refine st (Ss none 3 1 g9 2 (.int .i64 number.1) H rfl rfl (of_decide_eq_true rfl) ?_)
    intro w120 H
    refine Sg 4 [.op [1,1,1,0,1,0,1,0] 1,.co [1,1,1,0,1,0,1,1],.le 0,.co [1,1,1,1]] [(0,.pointer (some ⟨g0,0,none⟩)),(1,.int .i64 kind),(4,.pointer (some ⟨g9,0,none⟩)),(36,.pointer (some ⟨g0,0,none⟩))] ?_
    replace H:St w F m mk119 [blkI g0 [.slice A119_o0_0 number.2.f_text.f_b.length c119_o0_0,.int .i64 number.2.f_text.f_at,.int .i64 number.2.f_text.f_e,.slice A0_3 r_.f_l.length c0_3,.bool number.2.f_full,.bool number.2.f_more] 56,blkI g9 [.string ⟨([]:List UInt8).toArray⟩,.int .i64 kind,.int .i64 number.1,.int .i64 0,.int .i64 0,.int .i64 0,.int .i64 0,.slice none 0 0,.string ⟨([]:List UInt8).toArray⟩,.int .i64 0,.slice none 0 0] 44,rowO oApiEntry 44 A0_3 c0_3 r_.f_l] w120:=H
    obtain ⟨number1,h_number1,hp116⟩:=bindE hp116
    obtain ⟨F121,hse121,hFn121,hcl121⟩:=St.call [blkI g0 [.slice A119_o0_0 number.2.f_text.f_b.length c119_o0_0,.int .i64 number.2.f_text.f_at,.int .i64 number.2.f_text.f_e,.slice A0_3 r_.f_l.length c0_3,.bool number.2.f_full,.bool number.2.f_more] 56] H
    refine st (Cl (some 37) 49 #[.pointer (some ⟨g0,0,none⟩),.int .i64 10] Tryd.call49 (manifest_reader_number_c H.has g0 ({ f_text:=number.2.f_text,f_l:=r_.f_l,f_full:=number.2.f_full,f_more:=number.2.f_more }:TManifestReader) A119_o0_0 c119_o0_0 hs119_0 A0_3 c0_3 10 hse121 hFn121 h_number1) ?_)
    rintro _ w121 ⟨A121_o0_0,c121_o0_0,mk121,rfl,hS121,hs121_0⟩
    have hsub121:=hS121.sub
    replace H:=hcl121 _ _ _ hS121
    refine Sg 1 [.op [1,1,1,0,1,0,1,0] 3,.co [1,1,1,0,1,0,1,1],.le 0,.co [1,1,1,1]] [(0,.pointer (some ⟨g0,0,none⟩)),(1,.int .i64 kind),(4,.pointer (some ⟨g9,0,none⟩)),(37,.int .i64 number1.1),(38,.pointer (some ⟨g9,3,none⟩))] ?_
    refine st (Ss none 3 1 g9 3 (.int .i64 number1.1) H rfl rfl (of_decide_eq_true rfl) ?_)
    intro w122 H
    refine Sg 4 [.op [1,1,1,0,1,0,1,1,0] 1,.co [1,1,1,0,1,0,1,1,1],.le 0,.co [1,1,1,1]] [(0,.pointer (some ⟨g0,0,none⟩)),(1,.int .i64 kind),(4,.pointer (some ⟨g9,0,none⟩)),(39,.pointer (some ⟨g0,0,none⟩))] ?_
    obtain ⟨number2,h_number2,hp116⟩:=bindE hp116
    obtain ⟨F123,hse123,hFn123,hcl123⟩:=St.call [blkI g0 [.slice A121_o0_0 number1.2.f_text.f_b.length c121_o0_0,.int .i64 number1.2.f_text.f_at,.int .i64 number1.2.f_text.f_e,.slice A0_3 r_.f_l.length c0_3,.bool number1.2.f_full,.bool number1.2.f_more] 56] H
    refine st (Cl (some 40) 49 #[.pointer (some ⟨g0,0,none⟩),.int .i64 10] Tryd.call49 (manifest_reader_number_c H.has g0 ({ f_text:=number1.2.f_text,f_l:=r_.f_l,f_full:=number1.2.f_full,f_more:=number1.2.f_more }:TManifestReader) A121_o0_0 c121_o0_0 hs121_0 A0_3 c0_3 10 hse123 hFn123 h_number2) ?_)
    rintro _ w123 ⟨A123_o0_0,c123_o0_0,mk123,rfl,hS123,hs123_0⟩
    have hsub123:=hS123.sub
    replace H:=hcl123 _ _ _ hS123
    refine Sg 1 [.op [1,1,1,0,1,0,1,1,0] 3,.co [1,1,1,0,1,0,1,1,1],.le 0,.co [1,1,1,1]] [(0,.pointer (some ⟨g0,0,none⟩)),(1,.int .i64 kind),(4,.pointer (some ⟨g9,0,none⟩)),(40,.int .i64 number2.1),(41,.pointer (some ⟨g9,4,none⟩))] ?_
    refine st (Ss none 3 1 g9 4 (.int .i64 number2.1) H rfl rfl (of_decide_eq_true rfl) ?_)
    intro w124 H
    refine Sg 3 [.op [1,1,1,0,1,0,1,1,1] 1,.le 0,.co [1,1,1,1]] [(0,.pointer (some ⟨g0,0,none⟩)),(1,.int .i64 kind),(4,.pointer (some ⟨g9,0,none⟩)),(42,.pointer (some ⟨g0,0,none⟩))] ?_
    replace H:St w F m mk123 [blkI g0 [.slice A123_o0_0 number2.2.f_text.f_b.length c123_o0_0,.int .i64 number2.2.f_text.f_at,.int .i64 number2.2.f_text.f_e,.slice A0_3 r_.f_l.length c0_3,.bool number2.2.f_full,.bool number2.2.f_more] 56,blkI g9 [.string ⟨([]:List UInt8).toArray⟩,.int .i64 kind,.int .i64 number.1,.int .i64 number1.1,.int .i64 number2.1,.int .i64 0,.int .i64 0,.slice none 0 0,.string ⟨([]:List UInt8).toArray⟩,.int .i64 0,.slice none 0 0] 44,rowO oApiEntry 44 A0_3 c0_3 r_.f_l] w124:=H
    obtain ⟨number3,h_number3,hp116⟩:=bindE hp116
    obtain ⟨F125,hse125,hFn125,hcl125⟩:=St.call [blkI g0 [.slice A123_o0_0 number2.2.f_text.f_b.length c123_o0_0,.int .i64 number2.2.f_text.f_at,.int .i64 number2.2.f_text.f_e,.slice A0_3 r_.f_l.length c0_3,.bool number2.2.f_full,.bool number2.2.f_more] 56] H
    refine st (Cl (some 43) 49 #[.pointer (some ⟨g0,0,none⟩),.int .i64 10] Tryd.call49 (manifest_reader_number_c H.has g0 ({ f_text:=number2.2.f_text,f_l:=r_.f_l,f_full:=number2.2.f_full,f_more:=number2.2.f_more }:TManifestReader) A123_o0_0 c123_o0_0 hs123_0 A0_3 c0_3 10 hse125 hFn125 h_number3) ?_)
    rintro _ w125 ⟨A125_o0_0,c125_o0_0,mk125,rfl,hS125,hs125_0⟩
    have hsub125:=hS125.sub
    replace H:=hcl125 _ _ _ hS125
    refine Sg 1 [.op [1,1,1,0,1,0,1,1,1] 3,.le 0,.co [1,1,1,1]] [(0,.pointer (some ⟨g0,0,none⟩)),(1,.int .i64 kind),(4,.pointer (some ⟨g9,0,none⟩)),(43,.int .i64 number3.1),(44,.pointer (some ⟨g9,5,none⟩))] ?_
    refine st (Ss none 3 1 g9 5 (.int .i64 number3.1) H rfl rfl (of_decide_eq_true rfl) ?_)
    intro w126 H
    refine Sg 1 [.le 0,.co [1,1,1,1]] [(0,.pointer (some ⟨g0,0,none⟩)),(1,.int .i64 kind),(4,.pointer (some ⟨g9,0,none⟩))] ?_
    refine Lj (number3.2.f_text.f_b,number3.2.f_text.f_at,number3.2.f_text.f_e,number3.2.f_full,number3.2.f_more,number.1,number1.1,number2.1,number3.1,A125_o0_0,c125_o0_0,mk125) ⟨(Option.some.inj hp116).symm,(((H.pull 1 rfl).pull 2 rfl).pull 2 rfl),(((hsub119.trans hsub121).trans hsub123).trans hsub125),hs125_0⟩
   ·rw [hb118]
    refine Sg 2 [.le 0,.co [1,1,1,1]] [(0,.pointer (some ⟨g0,0,none⟩)),(1,.int .i64 kind),(4,.pointer (some ⟨g9,0,none⟩))] ?_
    refine Lj (r_.f_text.f_b,(IntKind.i64.wrap (r_.f_text.f_at+1)),r_.f_text.f_e,r_.f_full,r_.f_more,0,0,0,0,A0_0,c0_0,m) ⟨(Option.some.inj hp116).symm,((H.pull 2 rfl).pull 2 rfl),(Sub.refl _),s0_0⟩
  rintro ⟨b,at_,e_,full,more,Mode,Uid,Gid,Time,A_1_117,c_2_117,mm117⟩ wj116 ⟨hy116,H,hsub117,hs117_0⟩
  try dsimp only at hy116
  try dsimp only at H
  try dsimp only at hsub117
  try dsimp only at hs117_0
  rw [hy116] at hf
  try dsimp only at hf
  refine Sg 5 [.co [1,1,1,1,0,1],.co [1,1,1,1,1]] [(0,.pointer (some ⟨g0,0,none⟩)),(1,.int .i64 kind),(4,.pointer (some ⟨g9,0,none⟩)),(45,.int .i64 kind)] ?_
  obtain ⟨y136,hp136,hf⟩:=bindE hf
  refine joinR 0 (fun (x:(List UInt8) × Int × Int × Bool × Bool × Int × Int × Option Addr × Nat × Mem) => [(0,.pointer (some ⟨g0,0,none⟩)),(1,.int .i64 kind),(4,.pointer (some ⟨g9,0,none⟩))]) (fun (x:(List UInt8) × Int × Int × Bool × Bool × Int × Int × Option Addr × Nat × Mem) (wj136:World) => y136=(x.1,x.2.1,x.2.2.1,x.2.2.2.1,x.2.2.2.2.1,x.2.2.2.2.2.1,x.2.2.2.2.2.2.1) ∧ St w F m x.2.2.2.2.2.2.2.2.2 [blkI g0 [.slice (x.2.2.2.2.2.2.2.1) x.1.length (x.2.2.2.2.2.2.2.2.1),.int .i64 x.2.1,.int .i64 x.2.2.1,.slice A0_3 r_.f_l.length c0_3,.bool x.2.2.2.1,.bool x.2.2.2.2.1] 56,rowO oApiEntry 44 A0_3 c0_3 r_.f_l,blkI g9 [.string ⟨([]:List UInt8).toArray⟩,.int .i64 kind,.int .i64 Mode,.int .i64 Uid,.int .i64 Gid,.int .i64 Time,.int .i64 x.2.2.2.2.2.1,.slice none 0 0,.string ⟨([]:List UInt8).toArray⟩,.int .i64 x.2.2.2.2.2.2.1,.slice none 0 0] 44] wj136 ∧ Sub mm117 x.2.2.2.2.2.2.2.2.2 ∧ SlI rU8 x.2.2.2.2.2.2.2.2.2 x.2.2.2.2.2.2.2.1 x.2.2.2.2.2.2.2.2.1 x.1) (by kernel_rfl) ?_ ?_
  ·refine Sg 6 [.co [1,1,1,1,0,1,0,1],.bl 0,.le 0,.co [1,1,1,1,1]] [(0,.pointer (some ⟨g0,0,none⟩)),(1,.int .i64 kind),(4,.pointer (some ⟨g9,0,none⟩)),(45,.int .i64 kind),(46,.bool (kind == 1))] ?_
   rcases condT hp136 with ⟨hb138,hp136⟩ | ⟨hb138,hp136⟩
   ·rw [hb138]
    refine Sg 3 [.op [1,1,1,1,0,1,0,1,0] 1,.bl 0,.le 0,.co [1,1,1,1,1]] [(0,.pointer (some ⟨g0,0,none⟩)),(1,.int .i64 kind),(4,.pointer (some ⟨g9,0,none⟩)),(48,.pointer (some ⟨g0,0,none⟩))] ?_
    replace H:St w F m mm117 [blkI g0 [.slice A_1_117 b.length c_2_117,.int .i64 at_,.int .i64 e_,.slice A0_3 r_.f_l.length c0_3,.bool full,.bool more] 56,rowO oApiEntry 44 A0_3 c0_3 r_.f_l,blkI g9 [.string ⟨([]:List UInt8).toArray⟩,.int .i64 kind,.int .i64 Mode,.int .i64 Uid,.int .i64 Gid,.int .i64 Time,.int .i64 0,.slice none 0 0,.string ⟨([]:List UInt8).toArray⟩,.int .i64 0,.slice none 0 0] 44] wj116:=H
    obtain ⟨number4,h_number4,hp136⟩:=bindE hp136
    obtain ⟨F139,hse139,hFn139,hcl139⟩:=St.call [blkI g0 [.slice A_1_117 b.length c_2_117,.int .i64 at_,.int .i64 e_,.slice A0_3 r_.f_l.length c0_3,.bool full,.bool more] 56] H
    refine st (Cl (some 49) 49 #[.pointer (some ⟨g0,0,none⟩),.int .i64 10] Tryd.call49 (manifest_reader_number_c H.has g0 ({ f_text:=({ f_b:=b,f_at:=at_,f_e:=e_ }:TManifestText),f_l:=r_.f_l,f_full:=full,f_more:=more }:TManifestReader) A_1_117 c_2_117 hs117_0 A0_3 c0_3 10 hse139 hFn139 h_number4) ?_)
    rintro _ w139 ⟨A139_o0_0,c139_o0_0,mk139,rfl,hS139,hs139_0⟩
    have hsub139:=hS139.sub
    replace H:=hcl139 _ _ _ hS139
    refine Sg 1 [.op [1,1,1,1,0,1,0,1,0] 3,.bl 0,.le 0,.co [1,1,1,1,1]] [(0,.pointer (some ⟨g0,0,none⟩)),(1,.int .i64 kind),(4,.pointer (some ⟨g9,0,none⟩)),(49,.int .i64 number4.1),(50,.pointer (some ⟨g9,6,none⟩))] ?_
    refine st (Ss none 3 2 g9 6 (.int .i64 number4.1) H rfl rfl (of_decide_eq_true rfl) ?_)
    intro w140 H
    refine Sg 2 [.le 0,.co [1,1,1,1,1]] [(0,.pointer (some ⟨g0,0,none⟩)),(1,.int .i64 kind),(4,.pointer (some ⟨g9,0,none⟩))] ?_
    refine Lj (number4.2.f_text.f_b,number4.2.f_text.f_at,number4.2.f_text.f_e,number4.2.f_full,number4.2.f_more,number4.1,0,A139_o0_0,c139_o0_0,mk139) ⟨(Option.some.inj hp136).symm,H,hsub139,hs139_0⟩
   ·rw [hb138]
    refine Sg 7 [.co [1,1,1,1,0,1,0,1,1,0,1],.co [1,1,1,1,0,1,0,1,1,1],.bl 0,.le 0,.co [1,1,1,1,1]] [(0,.pointer (some ⟨g0,0,none⟩)),(1,.int .i64 kind),(4,.pointer (some ⟨g9,0,none⟩)),(45,.int .i64 kind),(51,.bool (kind == 4))] ?_
    rcases condT hp136 with ⟨hb141,hp136⟩ | ⟨hb141,hp136⟩
    ·rw [hb141]
     refine Sg 5 [.op [1,1,1,1,0,1,0,1,1,1,0] 1,.bl 0,.le 0,.co [1,1,1,1,1]] [(0,.pointer (some ⟨g0,0,none⟩)),(1,.int .i64 kind),(4,.pointer (some ⟨g9,0,none⟩)),(54,.pointer (some ⟨g0,0,none⟩))] ?_
     obtain ⟨number5,h_number5,hp136⟩:=bindE hp136
     obtain ⟨F142,hse142,hFn142,hcl142⟩:=St.call [blkI g0 [.slice A_1_117 b.length c_2_117,.int .i64 at_,.int .i64 e_,.slice A0_3 r_.f_l.length c0_3,.bool full,.bool more] 56] H
     refine st (Cl (some 55) 49 #[.pointer (some ⟨g0,0,none⟩),.int .i64 10] Tryd.call49 (manifest_reader_number_c H.has g0 ({ f_text:=({ f_b:=b,f_at:=at_,f_e:=e_ }:TManifestText),f_l:=r_.f_l,f_full:=full,f_more:=more }:TManifestReader) A_1_117 c_2_117 hs117_0 A0_3 c0_3 10 hse142 hFn142 h_number5) ?_)
     rintro _ w142 ⟨A142_o0_0,c142_o0_0,mk142,rfl,hS142,hs142_0⟩
     have hsub142:=hS142.sub
     replace H:=hcl142 _ _ _ hS142
     refine Sg 1 [.op [1,1,1,1,0,1,0,1,1,1,0] 3,.bl 0,.le 0,.co [1,1,1,1,1]] [(0,.pointer (some ⟨g0,0,none⟩)),(1,.int .i64 kind),(4,.pointer (some ⟨g9,0,none⟩)),(55,.int .i64 number5.1),(56,.pointer (some ⟨g9,9,none⟩))] ?_
     refine st (Ss none 3 2 g9 9 (.int .i64 number5.1) H rfl rfl (of_decide_eq_true rfl) ?_)
     intro w143 H
     refine Sg 2 [.le 0,.co [1,1,1,1,1]] [(0,.pointer (some ⟨g0,0,none⟩)),(1,.int .i64 kind),(4,.pointer (some ⟨g9,0,none⟩))] ?_
     refine Lj (number5.2.f_text.f_b,number5.2.f_text.f_at,number5.2.f_text.f_e,number5.2.f_full,number5.2.f_more,0,number5.1,A142_o0_0,c142_o0_0,mk142) ⟨(Option.some.inj hp136).symm,H,hsub142,hs142_0⟩
    ·rw [hb141]
     refine Sg 5 [.co [1,1,1,1,0,1,0,1,1,1],.bl 0,.le 0,.co [1,1,1,1,1]] [(0,.pointer (some ⟨g0,0,none⟩)),(1,.int .i64 kind),(4,.pointer (some ⟨g9,0,none⟩)),(51,.bool (kind == 5))] ?_
     rcases condT hp136 with ⟨hb144,hp136⟩ | ⟨hb144,hp136⟩
     ·rw [hb144]
      refine Sg 3 [.op [1,1,1,1,0,1,0,1,1,1,0] 1,.bl 0,.le 0,.co [1,1,1,1,1]] [(0,.pointer (some ⟨g0,0,none⟩)),(1,.int .i64 kind),(4,.pointer (some ⟨g9,0,none⟩)),(54,.pointer (some ⟨g0,0,none⟩))] ?_
      replace H:St w F m mm117 [blkI g0 [.slice A_1_117 b.length c_2_117,.int .i64 at_,.int .i64 e_,.slice A0_3 r_.f_l.length c0_3,.bool full,.bool more] 56,rowO oApiEntry 44 A0_3 c0_3 r_.f_l,blkI g9 [.string ⟨([]:List UInt8).toArray⟩,.int .i64 kind,.int .i64 Mode,.int .i64 Uid,.int .i64 Gid,.int .i64 Time,.int .i64 0,.slice none 0 0,.string ⟨([]:List UInt8).toArray⟩,.int .i64 0,.slice none 0 0] 44] wj116:=H
      obtain ⟨number6,h_number6,hp136⟩:=bindE hp136
      obtain ⟨F145,hse145,hFn145,hcl145⟩:=St.call [blkI g0 [.slice A_1_117 b.length c_2_117,.int .i64 at_,.int .i64 e_,.slice A0_3 r_.f_l.length c0_3,.bool full,.bool more] 56] H
      refine st (Cl (some 55) 49 #[.pointer (some ⟨g0,0,none⟩),.int .i64 10] Tryd.call49 (manifest_reader_number_c H.has g0 ({ f_text:=({ f_b:=b,f_at:=at_,f_e:=e_ }:TManifestText),f_l:=r_.f_l,f_full:=full,f_more:=more }:TManifestReader) A_1_117 c_2_117 hs117_0 A0_3 c0_3 10 hse145 hFn145 h_number6) ?_)
      rintro _ w145 ⟨A145_o0_0,c145_o0_0,mk145,rfl,hS145,hs145_0⟩
      have hsub145:=hS145.sub
      replace H:=hcl145 _ _ _ hS145
      refine Sg 1 [.op [1,1,1,1,0,1,0,1,1,1,0] 3,.bl 0,.le 0,.co [1,1,1,1,1]] [(0,.pointer (some ⟨g0,0,none⟩)),(1,.int .i64 kind),(4,.pointer (some ⟨g9,0,none⟩)),(55,.int .i64 number6.1),(56,.pointer (some ⟨g9,9,none⟩))] ?_
      refine st (Ss none 3 2 g9 9 (.int .i64 number6.1) H rfl rfl (of_decide_eq_true rfl) ?_)
      intro w146 H
      refine Sg 2 [.le 0,.co [1,1,1,1,1]] [(0,.pointer (some ⟨g0,0,none⟩)),(1,.int .i64 kind),(4,.pointer (some ⟨g9,0,none⟩))] ?_
      refine Lj (number6.2.f_text.f_b,number6.2.f_text.f_at,number6.2.f_text.f_e,number6.2.f_full,number6.2.f_more,0,number6.1,A145_o0_0,c145_o0_0,mk145) ⟨(Option.some.inj hp136).symm,H,hsub145,hs145_0⟩
     ·rw [hb144]
      refine Sg 3 [.le 0,.co [1,1,1,1,1]] [(0,.pointer (some ⟨g0,0,none⟩)),(1,.int .i64 kind),(4,.pointer (some ⟨g9,0,none⟩))] ?_
      refine Lj (b,at_,e_,full,more,0,0,A_1_117,c_2_117,mm117) ⟨(Option.some.inj hp136).symm,H,(Sub.refl _),hs117_0⟩
  rintro ⟨b1,at_1,e_1,full1,more1,Size,Dev,A_1_137,c_2_137,mm137⟩ wj136 ⟨hy136,H,hsub137,hs137_0⟩
  try dsimp only at hy136
  try dsimp only at H
  try dsimp only at hsub137
  try dsimp only at hs137_0
  rw [hy136] at hf
  try dsimp only at hf
  refine Sg 5 [.op [1,1,1,1,1,0] 3,.co [1,1,1,1,1,1]] [(0,.pointer (some ⟨g0,0,none⟩)),(1,.int .i64 kind),(4,.pointer (some ⟨g9,0,none⟩)),(59,.pointer (some ⟨g0,0,none⟩))] ?_
  obtain ⟨want,h_want,hf⟩:=bindE hf
  obtain ⟨F147,hse147,hFn147,hcl147⟩:=St.call [blkI g0 [.slice A_1_137 b1.length c_2_137,.int .i64 at_1,.int .i64 e_1,.slice A0_3 r_.f_l.length c0_3,.bool full1,.bool more1] 56] H
  refine st (Cl (some 60) 50 #[.pointer (some ⟨g0,0,none⟩),.int .u8 32] Tryd.call50 (manifest_text_want_c H.has g0 ({ f_text:=({ f_b:=b1,f_at:=at_1,f_e:=e_1 }:TManifestText),f_l:=r_.f_l,f_full:=full1,f_more:=more1 }:TManifestReader) A_1_137 c_2_137 hs137_0 A0_3 c0_3 (32:UInt8) hse147 hFn147 h_want) ?_)
  rintro _ w147 ⟨A147_o0_0,c147_o0_0,mk147,rfl,hS147,hs147_0⟩
  have hsub147:=hS147.sub
  replace H:=hcl147 _ _ _ hS147
  refine Sg 4 [.op [1,1,1,1,1,1,0] 1,.co [1,1,1,1,1,1,1]] [(0,.pointer (some ⟨g0,0,none⟩)),(1,.int .i64 kind),(4,.pointer (some ⟨g9,0,none⟩)),(61,.pointer (some ⟨g0,0,none⟩))] ?_
  obtain ⟨word_,h_word_,hf⟩:=bindE hf
  obtain ⟨F148,hse148,hFn148,hcl148⟩:=St.call [blkI g0 [.slice A147_o0_0 want.f_text.f_b.length c147_o0_0,.int .i64 want.f_text.f_at,.int .i64 want.f_text.f_e,.slice A0_3 r_.f_l.length c0_3,.bool want.f_full,.bool want.f_more] 56] H
  refine st (Cl (some 62) 24 #[.pointer (some ⟨g0,0,none⟩)] Tryd.call24 (manifest_reader_word_c H.has g0 ({ f_text:=want.f_text,f_l:=r_.f_l,f_full:=want.f_full,f_more:=want.f_more }:TManifestReader) A147_o0_0 c147_o0_0 hs147_0 A0_3 c0_3 hse148 hFn148 h_word_) ?_)
  rintro _ w148 ⟨A148_o0_0,c148_o0_0,mk148,rfl,hS148,hs148_0,hl148_0⟩
  have hsub148:=hS148.sub
  replace H:=hcl148 _ _ _ hS148
  refine Sg 1 [.op [1,1,1,1,1,1,0] 3,.co [1,1,1,1,1,1,1]] [(0,.pointer (some ⟨g0,0,none⟩)),(1,.int .i64 kind),(4,.pointer (some ⟨g9,0,none⟩)),(62,.string ⟨word_.1.toArray⟩),(63,.pointer (some ⟨g9,0,none⟩))] ?_
  replace H:St w F m mk148 [blkI g0 [.slice A148_o0_0 word_.2.f_text.f_b.length c148_o0_0,.int .i64 word_.2.f_text.f_at,.int .i64 word_.2.f_text.f_e,.slice A0_3 r_.f_l.length c0_3,.bool word_.2.f_full,.bool word_.2.f_more] 56,rowO oApiEntry 44 A0_3 c0_3 r_.f_l,blkI g9 [.string ⟨([]:List UInt8).toArray⟩,.int .i64 kind,.int .i64 Mode,.int .i64 Uid,.int .i64 Gid,.int .i64 Time,.int .i64 Size,.slice none 0 0,.string ⟨([]:List UInt8).toArray⟩,.int .i64 Dev,.slice none 0 0] 44] w148:=H
  refine st (Ss none 9 2 g9 0 (.string ⟨word_.1.toArray⟩) H rfl rfl (of_decide_eq_true rfl) ?_)
  intro w149 H
  refine Sg 3 [.co [1,1,1,1,1,1,1,0,0],.co [1,1,1,1,1,1,1,0,1],.co [1,1,1,1,1,1,1,1]] [(0,.pointer (some ⟨g0,0,none⟩)),(1,.int .i64 kind),(4,.pointer (some ⟨g9,0,none⟩))] ?_
  obtain ⟨y151,hp151,hf⟩:=ltE hf
  refine joinR 0 (fun (x:Bool) => [(0,.pointer (some ⟨g0,0,none⟩)),(1,.int .i64 kind),(4,.pointer (some ⟨g9,0,none⟩)),(69,.bool x)]) (fun (x:Bool) (wj151:World) => y151=x ∧ St w F m mk148 [blkI g0 [.slice A148_o0_0 word_.2.f_text.f_b.length c148_o0_0,.int .i64 word_.2.f_text.f_at,.int .i64 word_.2.f_text.f_e,.slice A0_3 r_.f_l.length c0_3,.bool word_.2.f_full,.bool word_.2.f_more] 56,rowO oApiEntry 44 A0_3 c0_3 r_.f_l,blkI g9 [.string ⟨word_.1.toArray⟩,.int .i64 kind,.int .i64 Mode,.int .i64 Uid,.int .i64 Gid,.int .i64 Time,.int .i64 Size,.slice none 0 0,.string ⟨([]:List UInt8).toArray⟩,.int .i64 Dev,.slice none 0 0] 44] wj151) (by kernel_rfl) ?_ ?_
  ·refine Sg 4 [.op [1,1,1,1,1,1,1,0,0] 3,.le 0,.co [1,1,1,1,1,1,1,0,1],.co [1,1,1,1,1,1,1,1]] [(0,.pointer (some ⟨g0,0,none⟩)),(1,.int .i64 kind),(4,.pointer (some ⟨g9,0,none⟩)),(66,.bool (kind == 3))] ?_
   rcases condT hp151 with ⟨hb153,hp151⟩ | ⟨hb153,hp151⟩
   ·rw [hb153]
    refine Sg 4 [.le 0,.co [1,1,1,1,1,1,1,0,1],.co [1,1,1,1,1,1,1,1]] [(0,.pointer (some ⟨g0,0,none⟩)),(1,.int .i64 kind),(4,.pointer (some ⟨g9,0,none⟩)),(69,.bool true)] ?_
    refine Lj (true) ⟨hp151.symm,H⟩
   ·rw [hb153]
    refine Sg 4 [.le 0,.co [1,1,1,1,1,1,1,0,1],.co [1,1,1,1,1,1,1,1]] [(0,.pointer (some ⟨g0,0,none⟩)),(1,.int .i64 kind),(4,.pointer (some ⟨g9,0,none⟩)),(69,.bool (kind == 6))] ?_
    refine Lj ((kind == 6)) ⟨hp151.symm,H⟩
  rintro t wj151 ⟨hy151,H⟩
  rw [hy151] at hf
  rcases condT hf with ⟨hb154,hf⟩ | ⟨hb154,hf⟩
  ·rw [hb154]
   refine Sg 6 [.op [1,1,1,1,1,1,1,0,1,0,0] 3,.co [1,1,1,1,1,1,1,0,1,0,1],.co [1,1,1,1,1,1,1,1]] [(0,.pointer (some ⟨g0,0,none⟩)),(1,.int .i64 kind),(4,.pointer (some ⟨g9,0,none⟩)),(72,.pointer (some ⟨g0,0,none⟩))] ?_
   obtain ⟨want1,h_want1,hf⟩:=bindE hf
   obtain ⟨F155,hse155,hFn155,hcl155⟩:=St.call [blkI g0 [.slice A148_o0_0 word_.2.f_text.f_b.length c148_o0_0,.int .i64 word_.2.f_text.f_at,.int .i64 word_.2.f_text.f_e,.slice A0_3 r_.f_l.length c0_3,.bool word_.2.f_full,.bool word_.2.f_more] 56] H
   refine st (Cl (some 73) 50 #[.pointer (some ⟨g0,0,none⟩),.int .u8 32] Tryd.call50 (manifest_text_want_c H.has g0 ({ f_text:=word_.2.f_text,f_l:=r_.f_l,f_full:=word_.2.f_full,f_more:=word_.2.f_more }:TManifestReader) A148_o0_0 c148_o0_0 hs148_0 A0_3 c0_3 (32:UInt8) hse155 hFn155 h_want1) ?_)
   rintro _ w155 ⟨A155_o0_0,c155_o0_0,mk155,rfl,hS155,hs155_0⟩
   have hsub155:=hS155.sub
   replace H:=hcl155 _ _ _ hS155
   refine Sg 3 [.op [1,1,1,1,1,1,1,0,1,0,1] 1,.co [1,1,1,1,1,1,1,1]] [(0,.pointer (some ⟨g0,0,none⟩)),(1,.int .i64 kind),(4,.pointer (some ⟨g9,0,none⟩)),(74,.pointer (some ⟨g0,0,none⟩))] ?_
   obtain ⟨word_1,h_word_1,hf⟩:=bindE hf
   obtain ⟨F156,hse156,hFn156,hcl156⟩:=St.call [blkI g0 [.slice A155_o0_0 want1.f_text.f_b.length c155_o0_0,.int .i64 want1.f_text.f_at,.int .i64 want1.f_text.f_e,.slice A0_3 r_.f_l.length c0_3,.bool want1.f_full,.bool want1.f_more] 56] H
   refine st (Cl (some 75) 24 #[.pointer (some ⟨g0,0,none⟩)] Tryd.call24 (manifest_reader_word_c H.has g0 ({ f_text:=want1.f_text,f_l:=r_.f_l,f_full:=want1.f_full,f_more:=want1.f_more }:TManifestReader) A155_o0_0 c155_o0_0 hs155_0 A0_3 c0_3 hse156 hFn156 h_word_1) ?_)
   rintro _ w156 ⟨A156_o0_0,c156_o0_0,mk156,rfl,hS156,hs156_0,hl156_0⟩
   have hsub156:=hS156.sub
   replace H:=hcl156 _ _ _ hS156
   refine Sg 1 [.op [1,1,1,1,1,1,1,0,1,0,1] 3,.co [1,1,1,1,1,1,1,1]] [(0,.pointer (some ⟨g0,0,none⟩)),(1,.int .i64 kind),(4,.pointer (some ⟨g9,0,none⟩)),(75,.string ⟨word_1.1.toArray⟩),(76,.pointer (some ⟨g9,8,none⟩))] ?_
   refine st (Ss none 9 2 g9 8 (.string ⟨word_1.1.toArray⟩) H rfl rfl (of_decide_eq_true rfl) ?_)
   intro w157 H
   refine Sg 6 [.op [1,1,1,1,1,1,1,1,0] 3,.co [1,1,1,1,1,1,1,1,1]] [(0,.pointer (some ⟨g0,0,none⟩)),(1,.int .i64 kind),(4,.pointer (some ⟨g9,0,none⟩)),(79,.pointer (some ⟨g0,0,none⟩))] ?_
   replace H:St w F m mk156 [blkI g0 [.slice A156_o0_0 word_1.2.f_text.f_b.length c156_o0_0,.int .i64 word_1.2.f_text.f_at,.int .i64 word_1.2.f_text.f_e,.slice A0_3 r_.f_l.length c0_3,.bool word_1.2.f_full,.bool word_1.2.f_more] 56,rowO oApiEntry 44 A0_3 c0_3 r_.f_l,blkI g9 [.string ⟨word_.1.toArray⟩,.int .i64 kind,.int .i64 Mode,.int .i64 Uid,.int .i64 Gid,.int .i64 Time,.int .i64 Size,.slice none 0 0,.string ⟨word_1.1.toArray⟩,.int .i64 Dev,.slice none 0 0] 44] w157:=H
   obtain ⟨want2,h_want2,hf⟩:=bindE hf
   obtain ⟨F158,hse158,hFn158,hcl158⟩:=St.call [blkI g0 [.slice A156_o0_0 word_1.2.f_text.f_b.length c156_o0_0,.int .i64 word_1.2.f_text.f_at,.int .i64 word_1.2.f_text.f_e,.slice A0_3 r_.f_l.length c0_3,.bool word_1.2.f_full,.bool word_1.2.f_more] 56] H
   refine st (Cl (some 80) 50 #[.pointer (some ⟨g0,0,none⟩),.int .u8 10] Tryd.call50 (manifest_text_want_c H.has g0 ({ f_text:=word_1.2.f_text,f_l:=r_.f_l,f_full:=word_1.2.f_full,f_more:=word_1.2.f_more }:TManifestReader) A156_o0_0 c156_o0_0 hs156_0 A0_3 c0_3 (10:UInt8) hse158 hFn158 h_want2) ?_)
   rintro _ w158 ⟨A158_o0_0,c158_o0_0,mk158,rfl,hS158,hs158_0⟩
   have hsub158:=hS158.sub
   replace H:=hcl158 _ _ _ hS158
   refine Sg 2 [.co [1,1,1,1,1,1,1,1,1,0],.co [1,1,1,1,1,1,1,1,1,1]] [(0,.pointer (some ⟨g0,0,none⟩)),(1,.int .i64 kind),(4,.pointer (some ⟨g9,0,none⟩))] ?_
   obtain ⟨b2,h_b2,hf⟩:=bindE hf
   have hst:statB (bodyOf Tryd.f42) [1,1,1,1,1,1,1,1,1,0]=true:=by kernel_rfl
   refine Dw (fun w' => Has mk158 w' ∧ w'.heap[g9]?=some (.cells [.string ⟨word_.1.toArray⟩,.int .i64 kind,.int .i64 Mode,.int .i64 Uid,.int .i64 Gid,.int .i64 Time,.int .i64 Size,.slice none 0 0,.string ⟨word_1.1.toArray⟩,.int .i64 Dev,.slice none 0 0].toArray 44 (0,0))) H ?_
   intro w162 H
   refine Sk hst [0,1,2,3] [0,1,2,3] [(0,.pointer (some ⟨g0,0,none⟩)),(1,.int .i64 kind),(4,.pointer (some ⟨g9,0,none⟩)),(81,.pointer (some ⟨g0,0,none⟩)),(84,.pointer (some ⟨g0,3,none⟩))] ?_
   refine Tk (i:=5) (d:=(some 86)) (s:=vS (Instr.loadAt 44 (.pointer (some ⟨g9,0,none⟩)))) (v:=(.agg #[.string ⟨word_.1.toArray⟩,.int .i64 kind,.int .i64 Mode,.int .i64 Uid,.int .i64 Gid,.int .i64 Time,.int .i64 Size,.slice none 0 0,.string ⟨word_1.1.toArray⟩,.int .i64 Dev,.slice none 0 0])) hst (fun w' hw' => aggRun _ _ [.string ⟨word_.1.toArray⟩,.int .i64 kind,.int .i64 Mode,.int .i64 Uid,.int .i64 Gid,.int .i64 Time,.int .i64 Size,.slice none 0 0,.string ⟨word_1.1.toArray⟩,.int .i64 Dev,.slice none 0 0] (by kernel_rfl) (blk_cells hw'.2 (by rfl))) ?_
   refine allD2 [4,6] (by kernel_rfl) ⟨H.has,H.blk 2 rfl⟩ ⟨?_,?_,trivial⟩
   ·replace H:St w F m mk158 [blkI g0 [.slice A158_o0_0 want2.f_text.f_b.length c158_o0_0,.int .i64 want2.f_text.f_at,.int .i64 want2.f_text.f_e,.slice A0_3 r_.f_l.length c0_3,.bool want2.f_full,.bool want2.f_more] 56,rowO oApiEntry 44 A0_3 c0_3 r_.f_l,blkI g9 [.string ⟨word_.1.toArray⟩,.int .i64 kind,.int .i64 Mode,.int .i64 Uid,.int .i64 Gid,.int .i64 Time,.int .i64 Size,.slice none 0 0,.string ⟨word_1.1.toArray⟩,.int .i64 Dev,.slice none 0 0] 44] w162:=H
    refine (Lr (some 85) 22 ⟨g0,3,none⟩ (.slice A0_3 r_.f_l.length c0_3) (H.cellB 0 rfl rfl) ?_)
    refine Sd (i:=6) ⟨H.has,H.blk 2 rfl⟩ (Nw (some 87) (fun g => .slice (some ⟨g,0,none⟩) 1 1) [.string ⟨word_.1.toArray⟩,.int .i64 kind,.int .i64 Mode,.int .i64 Uid,.int .i64 Gid,.int .i64 Time,.int .i64 Size,.slice none 0 0,.string ⟨word_1.1.toArray⟩,.int .i64 Dev,.slice none 0 0] 44 H ?_)
    intro g163 w163 H
    have H:=H.nilR rU8 5
    have H:=H.nilR rApiAttr 46
    replace H:St w F m mk158 [rowI rU8 5 none 0 ([]:List UInt8),rowI rApiAttr 46 none 0 ([]:List TApiAttr),rowO oApiEntry 44 A0_3 c0_3 r_.f_l,blkI g163 [.string ⟨word_.1.toArray⟩,.int .i64 kind,.int .i64 Mode,.int .i64 Uid,.int .i64 Gid,.int .i64 Time,.int .i64 Size,.slice none 0 0,.string ⟨word_1.1.toArray⟩,.int .i64 Dev,.slice none 0 0] 44,blkI g0 [.slice A158_o0_0 want2.f_text.f_b.length c158_o0_0,.int .i64 want2.f_text.f_at,.int .i64 want2.f_text.f_e,.slice A0_3 r_.f_l.length c0_3,.bool want2.f_full,.bool want2.f_more] 56,blkI g9 [.string ⟨word_.1.toArray⟩,.int .i64 kind,.int .i64 Mode,.int .i64 Uid,.int .i64 Gid,.int .i64 Time,.int .i64 Size,.slice none 0 0,.string ⟨word_1.1.toArray⟩,.int .i64 Dev,.slice none 0 0] 44] w163:=(((H.pull 4 rfl).pull 1 rfl).pull 2 rfl)
    have hbl164:=H.blk 3 rfl
    refine Sd (i:=7) ⟨H.has,H.blk 5 rfl⟩ (appOS (o:=oApiEntry) (some 88) 22 44 136 (.agg #[.string ⟨([]:List UInt8).toArray⟩,.int .i64 0,.int .i64 0,.int .i64 0,.int .i64 0,.int .i64 0,.int .i64 0,.slice none 0 0,.string ⟨([]:List UInt8).toArray⟩,.int .i64 0,.slice none 0 0]) 22 A0_3 (some ⟨g163,0,none⟩) c0_3 1 1 r_.f_l b2 ({ Path:=word_.1,Kind:=kind,Mode:=Mode,Uid:=Uid,Gid:=Gid,Time:=Time,Size:=Size,Data:=[],Target:=word_1.1,Dev:=Dev,Attrs:=[] }:TApiEntry) [.string ⟨word_.1.toArray⟩,.int .i64 kind,.int .i64 Mode,.int .i64 Uid,.int .i64 Gid,.int .i64 Time,.int .i64 Size,.slice none 0 0,.string ⟨word_1.1.toArray⟩,.int .i64 Dev,.slice none 0 0] (oApiEntry_close (x:=({ Path:=word_.1,Kind:=kind,Mode:=Mode,Uid:=Uid,Gid:=Gid,Time:=Time,Size:=Size,Data:=[],Target:=word_1.1,Dev:=Dev,Attrs:=[] }:TApiEntry)) ⟨hl148_0,hl156_0⟩ H) ⟨Tryd.underlying22,by kernel_rfl⟩ rfl (by decide) (by kernel_rfl) (Cs.of_blk hbl164) rfl h_b2 (by decide) (by decide) ?_)
    intro A164 c164 w164 H
    replace H:=H.drop 1 rfl
    refine Sk hst [8,9] [0,1,2,3,5,4,6,7,8,9] [(0,.pointer (some ⟨g0,0,none⟩)),(1,.int .i64 kind),(88,.slice A164 b2.length c164),(90,.pointer (some ⟨g0,3,none⟩))] ?_
    refine Sd (i:=10) ⟨H.has,H.blk 2 rfl⟩ (Ss none 22 1 g0 3 (.slice A164 b2.length c164) H rfl rfl (of_decide_eq_true rfl) ?_)
    intro w165 H
    refine Ed ⟨H.has,H.blk 2 rfl⟩ ?_
    refine Sg 9 [.op [1,1,1,1,1,1,1,1,1,1] 8] [(92,.pointer (some ⟨g0,0,none⟩)),(94,.bool (kind == 1)),(96,.bool (kind != 6)),(98,.pointer (some ⟨g0,4,none⟩))] ?_
    refine st (Ss none 4 1 g0 4 (.bool (kind == 1)) H rfl rfl (of_decide_eq_true rfl) ?_)
    intro w166 H
    refine Sg 2 [.op [1,1,1,1,1,1,1,1,1,1] 11] [(96,.bool (kind != 6)),(100,.pointer (some ⟨g0,5,none⟩))] ?_
    replace H:St w F m mk158 [rowO oApiEntry 44 A164 c164 b2,blkI g0 [.slice A158_o0_0 want2.f_text.f_b.length c158_o0_0,.int .i64 want2.f_text.f_at,.int .i64 want2.f_text.f_e,.slice A164 b2.length c164,.bool (kind == 1),.bool want2.f_more] 56] w166:=(H.drop 2 rfl)
    refine st (Ss none 4 1 g0 5 (.bool (kind != 6)) H rfl rfl (of_decide_eq_true rfl) ?_)
    intro w167 H
    refine Sg 1 [] [] ?_
    refine Er [] [] ?_
    obtain rfl:({ f_text:=want2.f_text,f_l:=b2,f_full:=(kind == 1),f_more:=(kind != 6) }:TManifestReader)=r:=(Option.some.inj hf)
    exact ⟨_,rfl,A158_o0_0,c158_o0_0,A164,c164,mk158,rfl,(H.pull 1 rfl),hs158_0⟩
   ·refine (Nw (some 87) (fun g => .slice (some ⟨g,0,none⟩) 1 1) [.string ⟨word_.1.toArray⟩,.int .i64 kind,.int .i64 Mode,.int .i64 Uid,.int .i64 Gid,.int .i64 Time,.int .i64 Size,.slice none 0 0,.string ⟨word_1.1.toArray⟩,.int .i64 Dev,.slice none 0 0] 44 H ?_)
    intro g168 w168 H
    refine Sd (i:=4) ⟨H.has,H.blk 3 rfl⟩ (Lr (some 85) 22 ⟨g0,3,none⟩ (.slice A0_3 r_.f_l.length c0_3) (H.cellB 1 rfl rfl) ?_)
    have H:=H.nilR rU8 5
    have H:=H.nilR rApiAttr 46
    replace H:St w F m mk158 [rowI rU8 5 none 0 ([]:List UInt8),rowI rApiAttr 46 none 0 ([]:List TApiAttr),rowO oApiEntry 44 A0_3 c0_3 r_.f_l,blkI g168 [.string ⟨word_.1.toArray⟩,.int .i64 kind,.int .i64 Mode,.int .i64 Uid,.int .i64 Gid,.int .i64 Time,.int .i64 Size,.slice none 0 0,.string ⟨word_1.1.toArray⟩,.int .i64 Dev,.slice none 0 0] 44,blkI g0 [.slice A158_o0_0 want2.f_text.f_b.length c158_o0_0,.int .i64 want2.f_text.f_at,.int .i64 want2.f_text.f_e,.slice A0_3 r_.f_l.length c0_3,.bool want2.f_full,.bool want2.f_more] 56,blkI g9 [.string ⟨word_.1.toArray⟩,.int .i64 kind,.int .i64 Mode,.int .i64 Uid,.int .i64 Gid,.int .i64 Time,.int .i64 Size,.slice none 0 0,.string ⟨word_1.1.toArray⟩,.int .i64 Dev,.slice none 0 0] 44] w168:=(((H.pull 4 rfl).pull 1 rfl).pull 2 rfl)
    have hbl169:=H.blk 3 rfl
    refine Sd (i:=7) ⟨H.has,H.blk 5 rfl⟩ (appOS (o:=oApiEntry) (some 88) 22 44 136 (.agg #[.string ⟨([]:List UInt8).toArray⟩,.int .i64 0,.int .i64 0,.int .i64 0,.int .i64 0,.int .i64 0,.int .i64 0,.slice none 0 0,.string ⟨([]:List UInt8).toArray⟩,.int .i64 0,.slice none 0 0]) 22 A0_3 (some ⟨g168,0,none⟩) c0_3 1 1 r_.f_l b2 ({ Path:=word_.1,Kind:=kind,Mode:=Mode,Uid:=Uid,Gid:=Gid,Time:=Time,Size:=Size,Data:=[],Target:=word_1.1,Dev:=Dev,Attrs:=[] }:TApiEntry) [.string ⟨word_.1.toArray⟩,.int .i64 kind,.int .i64 Mode,.int .i64 Uid,.int .i64 Gid,.int .i64 Time,.int .i64 Size,.slice none 0 0,.string ⟨word_1.1.toArray⟩,.int .i64 Dev,.slice none 0 0] (oApiEntry_close (x:=({ Path:=word_.1,Kind:=kind,Mode:=Mode,Uid:=Uid,Gid:=Gid,Time:=Time,Size:=Size,Data:=[],Target:=word_1.1,Dev:=Dev,Attrs:=[] }:TApiEntry)) ⟨hl148_0,hl156_0⟩ H) ⟨Tryd.underlying22,by kernel_rfl⟩ rfl (by decide) (by kernel_rfl) (Cs.of_blk hbl169) rfl h_b2 (by decide) (by decide) ?_)
    intro A169 c169 w169 H
    replace H:=H.drop 1 rfl
    refine Sk hst [8,9] [0,1,2,3,5,6,4,7,8,9] [(0,.pointer (some ⟨g0,0,none⟩)),(1,.int .i64 kind),(88,.slice A169 b2.length c169),(90,.pointer (some ⟨g0,3,none⟩))] ?_
    refine Sd (i:=10) ⟨H.has,H.blk 2 rfl⟩ (Ss none 22 1 g0 3 (.slice A169 b2.length c169) H rfl rfl (of_decide_eq_true rfl) ?_)
    intro w170 H
    refine Ed ⟨H.has,H.blk 2 rfl⟩ ?_
    refine Sg 9 [.op [1,1,1,1,1,1,1,1,1,1] 8] [(92,.pointer (some ⟨g0,0,none⟩)),(94,.bool (kind == 1)),(96,.bool (kind != 6)),(98,.pointer (some ⟨g0,4,none⟩))] ?_
    replace H:St w F m mk158 [rowO oApiEntry 44 A169 c169 b2,blkI g0 [.slice A158_o0_0 want2.f_text.f_b.length c158_o0_0,.int .i64 want2.f_text.f_at,.int .i64 want2.f_text.f_e,.slice A169 b2.length c169,.bool want2.f_full,.bool want2.f_more] 56] w170:=(H.drop 2 rfl)
    refine st (Ss none 4 1 g0 4 (.bool (kind == 1)) H rfl rfl (of_decide_eq_true rfl) ?_)
    intro w171 H
    refine Sg 2 [.op [1,1,1,1,1,1,1,1,1,1] 11] [(96,.bool (kind != 6)),(100,.pointer (some ⟨g0,5,none⟩))] ?_
    refine st (Ss none 4 1 g0 5 (.bool (kind != 6)) H rfl rfl (of_decide_eq_true rfl) ?_)
    intro w172 H
    refine Sg 1 [] [] ?_
    refine Er [] [] ?_
    obtain rfl:({ f_text:=want2.f_text,f_l:=b2,f_full:=(kind == 1),f_more:=(kind != 6) }:TManifestReader)=r:=(Option.some.inj hf)
    exact ⟨_,rfl,A158_o0_0,c158_o0_0,A169,c169,mk158,rfl,(H.pull 1 rfl),hs158_0⟩
  ·rw [hb154]
   refine Sg 7 [.op [1,1,1,1,1,1,1,1,0] 3,.co [1,1,1,1,1,1,1,1,1]] [(0,.pointer (some ⟨g0,0,none⟩)),(1,.int .i64 kind),(4,.pointer (some ⟨g9,0,none⟩)),(79,.pointer (some ⟨g0,0,none⟩))] ?_
   obtain ⟨want3,h_want3,hf⟩:=bindE hf
   obtain ⟨F173,hse173,hFn173,hcl173⟩:=St.call [blkI g0 [.slice A148_o0_0 word_.2.f_text.f_b.length c148_o0_0,.int .i64 word_.2.f_text.f_at,.int .i64 word_.2.f_text.f_e,.slice A0_3 r_.f_l.length c0_3,.bool word_.2.f_full,.bool word_.2.f_more] 56] H
   refine st (Cl (some 80) 50 #[.pointer (some ⟨g0,0,none⟩),.int .u8 10] Tryd.call50 (manifest_text_want_c H.has g0 ({ f_text:=word_.2.f_text,f_l:=r_.f_l,f_full:=word_.2.f_full,f_more:=word_.2.f_more }:TManifestReader) A148_o0_0 c148_o0_0 hs148_0 A0_3 c0_3 (10:UInt8) hse173 hFn173 h_want3) ?_)
   rintro _ w173 ⟨A173_o0_0,c173_o0_0,mk173,rfl,hS173,hs173_0⟩
   have hsub173:=hS173.sub
   replace H:=hcl173 _ _ _ hS173
   refine Sg 2 [.co [1,1,1,1,1,1,1,1,1,0],.co [1,1,1,1,1,1,1,1,1,1]] [(0,.pointer (some ⟨g0,0,none⟩)),(1,.int .i64 kind),(4,.pointer (some ⟨g9,0,none⟩))] ?_
   obtain ⟨b3,h_b3,hf⟩:=bindE hf
   have hst:statB (bodyOf Tryd.f42) [1,1,1,1,1,1,1,1,1,0]=true:=by kernel_rfl
   refine Dw (fun w' => Has mk173 w' ∧ w'.heap[g9]?=some (.cells [.string ⟨word_.1.toArray⟩,.int .i64 kind,.int .i64 Mode,.int .i64 Uid,.int .i64 Gid,.int .i64 Time,.int .i64 Size,.slice none 0 0,.string ⟨([]:List UInt8).toArray⟩,.int .i64 Dev,.slice none 0 0].toArray 44 (0,0))) H ?_
   intro w177 H
   refine Sk hst [0,1,2,3] [0,1,2,3] [(0,.pointer (some ⟨g0,0,none⟩)),(1,.int .i64 kind),(4,.pointer (some ⟨g9,0,none⟩)),(81,.pointer (some ⟨g0,0,none⟩)),(84,.pointer (some ⟨g0,3,none⟩))] ?_
   refine Tk (i:=5) (d:=(some 86)) (s:=vS (Instr.loadAt 44 (.pointer (some ⟨g9,0,none⟩)))) (v:=(.agg #[.string ⟨word_.1.toArray⟩,.int .i64 kind,.int .i64 Mode,.int .i64 Uid,.int .i64 Gid,.int .i64 Time,.int .i64 Size,.slice none 0 0,.string ⟨([]:List UInt8).toArray⟩,.int .i64 Dev,.slice none 0 0])) hst (fun w' hw' => aggRun _ _ [.string ⟨word_.1.toArray⟩,.int .i64 kind,.int .i64 Mode,.int .i64 Uid,.int .i64 Gid,.int .i64 Time,.int .i64 Size,.slice none 0 0,.string ⟨([]:List UInt8).toArray⟩,.int .i64 Dev,.slice none 0 0] (by kernel_rfl) (blk_cells hw'.2 (by rfl))) ?_
   refine allD2 [4,6] (by kernel_rfl) ⟨H.has,H.blk 2 rfl⟩ ⟨?_,?_,trivial⟩
   ·replace H:St w F m mk173 [blkI g0 [.slice A173_o0_0 want3.f_text.f_b.length c173_o0_0,.int .i64 want3.f_text.f_at,.int .i64 want3.f_text.f_e,.slice A0_3 r_.f_l.length c0_3,.bool want3.f_full,.bool want3.f_more] 56,rowO oApiEntry 44 A0_3 c0_3 r_.f_l,blkI g9 [.string ⟨word_.1.toArray⟩,.int .i64 kind,.int .i64 Mode,.int .i64 Uid,.int .i64 Gid,.int .i64 Time,.int .i64 Size,.slice none 0 0,.string ⟨([]:List UInt8).toArray⟩,.int .i64 Dev,.slice none 0 0] 44] w177:=H
    refine (Lr (some 85) 22 ⟨g0,3,none⟩ (.slice A0_3 r_.f_l.length c0_3) (H.cellB 0 rfl rfl) ?_)
    refine Sd (i:=6) ⟨H.has,H.blk 2 rfl⟩ (Nw (some 87) (fun g => .slice (some ⟨g,0,none⟩) 1 1) [.string ⟨word_.1.toArray⟩,.int .i64 kind,.int .i64 Mode,.int .i64 Uid,.int .i64 Gid,.int .i64 Time,.int .i64 Size,.slice none 0 0,.string ⟨([]:List UInt8).toArray⟩,.int .i64 Dev,.slice none 0 0] 44 H ?_)
    intro g178 w178 H
    have H:=H.nilR rU8 5
    have H:=H.nilR rApiAttr 46
    replace H:St w F m mk173 [rowI rU8 5 none 0 ([]:List UInt8),rowI rApiAttr 46 none 0 ([]:List TApiAttr),rowO oApiEntry 44 A0_3 c0_3 r_.f_l,blkI g178 [.string ⟨word_.1.toArray⟩,.int .i64 kind,.int .i64 Mode,.int .i64 Uid,.int .i64 Gid,.int .i64 Time,.int .i64 Size,.slice none 0 0,.string ⟨([]:List UInt8).toArray⟩,.int .i64 Dev,.slice none 0 0] 44,blkI g0 [.slice A173_o0_0 want3.f_text.f_b.length c173_o0_0,.int .i64 want3.f_text.f_at,.int .i64 want3.f_text.f_e,.slice A0_3 r_.f_l.length c0_3,.bool want3.f_full,.bool want3.f_more] 56,blkI g9 [.string ⟨word_.1.toArray⟩,.int .i64 kind,.int .i64 Mode,.int .i64 Uid,.int .i64 Gid,.int .i64 Time,.int .i64 Size,.slice none 0 0,.string ⟨([]:List UInt8).toArray⟩,.int .i64 Dev,.slice none 0 0] 44] w178:=(((H.pull 4 rfl).pull 1 rfl).pull 2 rfl)
    have hbl179:=H.blk 3 rfl
    refine Sd (i:=7) ⟨H.has,H.blk 5 rfl⟩ (appOS (o:=oApiEntry) (some 88) 22 44 136 (.agg #[.string ⟨([]:List UInt8).toArray⟩,.int .i64 0,.int .i64 0,.int .i64 0,.int .i64 0,.int .i64 0,.int .i64 0,.slice none 0 0,.string ⟨([]:List UInt8).toArray⟩,.int .i64 0,.slice none 0 0]) 22 A0_3 (some ⟨g178,0,none⟩) c0_3 1 1 r_.f_l b3 ({ Path:=word_.1,Kind:=kind,Mode:=Mode,Uid:=Uid,Gid:=Gid,Time:=Time,Size:=Size,Data:=[],Target:=([]:List UInt8),Dev:=Dev,Attrs:=[] }:TApiEntry) [.string ⟨word_.1.toArray⟩,.int .i64 kind,.int .i64 Mode,.int .i64 Uid,.int .i64 Gid,.int .i64 Time,.int .i64 Size,.slice none 0 0,.string ⟨([]:List UInt8).toArray⟩,.int .i64 Dev,.slice none 0 0] (oApiEntry_close (x:=({ Path:=word_.1,Kind:=kind,Mode:=Mode,Uid:=Uid,Gid:=Gid,Time:=Time,Size:=Size,Data:=[],Target:=([]:List UInt8),Dev:=Dev,Attrs:=[] }:TApiEntry)) ⟨hl148_0,(Nat.le_of_ble_eq_true rfl)⟩ H) ⟨Tryd.underlying22,by kernel_rfl⟩ rfl (by decide) (by kernel_rfl) (Cs.of_blk hbl179) rfl h_b3 (by decide) (by decide) ?_)
    intro A179 c179 w179 H
    replace H:=H.drop 1 rfl
    refine Sk hst [8,9] [0,1,2,3,5,4,6,7,8,9] [(0,.pointer (some ⟨g0,0,none⟩)),(1,.int .i64 kind),(88,.slice A179 b3.length c179),(90,.pointer (some ⟨g0,3,none⟩))] ?_
    refine Sd (i:=10) ⟨H.has,H.blk 2 rfl⟩ (Ss none 22 1 g0 3 (.slice A179 b3.length c179) H rfl rfl (of_decide_eq_true rfl) ?_)
    intro w180 H
    refine Ed ⟨H.has,H.blk 2 rfl⟩ ?_
    refine Sg 9 [.op [1,1,1,1,1,1,1,1,1,1] 8] [(92,.pointer (some ⟨g0,0,none⟩)),(94,.bool (kind == 1)),(96,.bool (kind != 6)),(98,.pointer (some ⟨g0,4,none⟩))] ?_
    refine st (Ss none 4 1 g0 4 (.bool (kind == 1)) H rfl rfl (of_decide_eq_true rfl) ?_)
    intro w181 H
    refine Sg 2 [.op [1,1,1,1,1,1,1,1,1,1] 11] [(96,.bool (kind != 6)),(100,.pointer (some ⟨g0,5,none⟩))] ?_
    replace H:St w F m mk173 [rowO oApiEntry 44 A179 c179 b3,blkI g0 [.slice A173_o0_0 want3.f_text.f_b.length c173_o0_0,.int .i64 want3.f_text.f_at,.int .i64 want3.f_text.f_e,.slice A179 b3.length c179,.bool (kind == 1),.bool want3.f_more] 56] w181:=(H.drop 2 rfl)
    refine st (Ss none 4 1 g0 5 (.bool (kind != 6)) H rfl rfl (of_decide_eq_true rfl) ?_)
    intro w182 H
    refine Sg 1 [] [] ?_
    refine Er [] [] ?_
    obtain rfl:({ f_text:=want3.f_text,f_l:=b3,f_full:=(kind == 1),f_more:=(kind != 6) }:TManifestReader)=r:=(Option.some.inj hf)
    exact ⟨_,rfl,A173_o0_0,c173_o0_0,A179,c179,mk173,rfl,(H.pull 1 rfl),hs173_0⟩
   ·refine (Nw (some 87) (fun g => .slice (some ⟨g,0,none⟩) 1 1) [.string ⟨word_.1.toArray⟩,.int .i64 kind,.int .i64 Mode,.int .i64 Uid,.int .i64 Gid,.int .i64 Time,.int .i64 Size,.slice none 0 0,.string ⟨([]:List UInt8).toArray⟩,.int .i64 Dev,.slice none 0 0] 44 H ?_)
    intro g183 w183 H
    refine Sd (i:=4) ⟨H.has,H.blk 3 rfl⟩ (Lr (some 85) 22 ⟨g0,3,none⟩ (.slice A0_3 r_.f_l.length c0_3) (H.cellB 1 rfl rfl) ?_)
    have H:=H.nilR rU8 5
    have H:=H.nilR rApiAttr 46
    replace H:St w F m mk173 [rowI rU8 5 none 0 ([]:List UInt8),rowI rApiAttr 46 none 0 ([]:List TApiAttr),rowO oApiEntry 44 A0_3 c0_3 r_.f_l,blkI g183 [.string ⟨word_.1.toArray⟩,.int .i64 kind,.int .i64 Mode,.int .i64 Uid,.int .i64 Gid,.int .i64 Time,.int .i64 Size,.slice none 0 0,.string ⟨([]:List UInt8).toArray⟩,.int .i64 Dev,.slice none 0 0] 44,blkI g0 [.slice A173_o0_0 want3.f_text.f_b.length c173_o0_0,.int .i64 want3.f_text.f_at,.int .i64 want3.f_text.f_e,.slice A0_3 r_.f_l.length c0_3,.bool want3.f_full,.bool want3.f_more] 56,blkI g9 [.string ⟨word_.1.toArray⟩,.int .i64 kind,.int .i64 Mode,.int .i64 Uid,.int .i64 Gid,.int .i64 Time,.int .i64 Size,.slice none 0 0,.string ⟨([]:List UInt8).toArray⟩,.int .i64 Dev,.slice none 0 0] 44] w183:=(((H.pull 4 rfl).pull 1 rfl).pull 2 rfl)
    have hbl184:=H.blk 3 rfl
    refine Sd (i:=7) ⟨H.has,H.blk 5 rfl⟩ (appOS (o:=oApiEntry) (some 88) 22 44 136 (.agg #[.string ⟨([]:List UInt8).toArray⟩,.int .i64 0,.int .i64 0,.int .i64 0,.int .i64 0,.int .i64 0,.int .i64 0,.slice none 0 0,.string ⟨([]:List UInt8).toArray⟩,.int .i64 0,.slice none 0 0]) 22 A0_3 (some ⟨g183,0,none⟩) c0_3 1 1 r_.f_l b3 ({ Path:=word_.1,Kind:=kind,Mode:=Mode,Uid:=Uid,Gid:=Gid,Time:=Time,Size:=Size,Data:=[],Target:=([]:List UInt8),Dev:=Dev,Attrs:=[] }:TApiEntry) [.string ⟨word_.1.toArray⟩,.int .i64 kind,.int .i64 Mode,.int .i64 Uid,.int .i64 Gid,.int .i64 Time,.int .i64 Size,.slice none 0 0,.string ⟨([]:List UInt8).toArray⟩,.int .i64 Dev,.slice none 0 0] (oApiEntry_close (x:=({ Path:=word_.1,Kind:=kind,Mode:=Mode,Uid:=Uid,Gid:=Gid,Time:=Time,Size:=Size,Data:=[],Target:=([]:List UInt8),Dev:=Dev,Attrs:=[] }:TApiEntry)) ⟨hl148_0,(Nat.le_of_ble_eq_true rfl)⟩ H) ⟨Tryd.underlying22,by kernel_rfl⟩ rfl (by decide) (by kernel_rfl) (Cs.of_blk hbl184) rfl h_b3 (by decide) (by decide) ?_)
    intro A184 c184 w184 H
    replace H:=H.drop 1 rfl
    refine Sk hst [8,9] [0,1,2,3,5,6,4,7,8,9] [(0,.pointer (some ⟨g0,0,none⟩)),(1,.int .i64 kind),(88,.slice A184 b3.length c184),(90,.pointer (some ⟨g0,3,none⟩))] ?_
    refine Sd (i:=10) ⟨H.has,H.blk 2 rfl⟩ (Ss none 22 1 g0 3 (.slice A184 b3.length c184) H rfl rfl (of_decide_eq_true rfl) ?_)
    intro w185 H
    refine Ed ⟨H.has,H.blk 2 rfl⟩ ?_
    refine Sg 9 [.op [1,1,1,1,1,1,1,1,1,1] 8] [(92,.pointer (some ⟨g0,0,none⟩)),(94,.bool (kind == 1)),(96,.bool (kind != 6)),(98,.pointer (some ⟨g0,4,none⟩))] ?_
    replace H:St w F m mk173 [rowO oApiEntry 44 A184 c184 b3,blkI g0 [.slice A173_o0_0 want3.f_text.f_b.length c173_o0_0,.int .i64 want3.f_text.f_at,.int .i64 want3.f_text.f_e,.slice A184 b3.length c184,.bool want3.f_full,.bool want3.f_more] 56] w185:=(H.drop 2 rfl)
    refine st (Ss none 4 1 g0 4 (.bool (kind == 1)) H rfl rfl (of_decide_eq_true rfl) ?_)
    intro w186 H
    refine Sg 2 [.op [1,1,1,1,1,1,1,1,1,1] 11] [(96,.bool (kind != 6)),(100,.pointer (some ⟨g0,5,none⟩))] ?_
    refine st (Ss none 4 1 g0 5 (.bool (kind != 6)) H rfl rfl (of_decide_eq_true rfl) ?_)
    intro w187 H
    refine Sg 1 [] [] ?_
    refine Er [] [] ?_
    obtain rfl:({ f_text:=want3.f_text,f_l:=b3,f_full:=(kind == 1),f_more:=(kind != 6) }:TManifestReader)=r:=(Option.some.inj hf)
    exact ⟨_,rfl,A173_o0_0,c173_o0_0,A184,c184,mk173,rfl,(H.pull 1 rfl),hs173_0⟩
theorem manifest_reader_data_c {m:Mem} {w:World} (hm:Has m w) (g0:Nat) (r_:TManifestReader) (A0_0:Option Addr) (c0_0:Nat) (s0_0:SlI rU8 m A0_0 c0_0 r_.f_text.f_b) (A0_3:Option Addr) (c0_3:Nat) {F:Nat → Prop} (hsep:Sep m w [blkI g0 [.slice A0_0 r_.f_text.f_b.length c0_0,.int .i64 r_.f_text.f_at,.int .i64 r_.f_text.f_e,.slice A0_3 r_.f_l.length c0_3,.bool r_.f_full,.bool r_.f_more] 56,rowO oApiEntry 44 A0_3 c0_3 r_.f_l] F) (hF:∀ k,F k → m k=none) {r:TManifestReader} (hf:manifest_reader_data r_=some r) :
  Calls Tryd.prog 43 #[.pointer (some ⟨g0,0,none⟩)] w fun e w' => ∃ v,e=.returned v ∧ ∃ Az_o0_0:Option Addr,∃ cz_o0_0:Nat,∃ Az_o0_3:Option Addr,∃ cz_o0_3:Nat,∃ m':Mem,v=.tuple #[] ∧ St w F m m' [blkI g0 [.slice Az_o0_0 r.f_text.f_b.length cz_o0_0,.int .i64 r.f_text.f_at,.int .i64 r.f_text.f_e,.slice Az_o0_3 r.f_l.length cz_o0_3,.bool r.f_full,.bool r.f_more] 56,rowO oApiEntry 44 Az_o0_3 cz_o0_3 r.f_l] w' ∧ SlI rU8 m' Az_o0_0 cz_o0_0 r.f_text.f_b:=by
 unfold manifest_reader_data at hf
 have H:=St.start hm hsep hF
 refine Fc Tryd.func43 ?_
 refine Sg 6 [.op [0] 4,.co [1]] [(0,.pointer (some ⟨g0,0,none⟩)),(4,.pointer (some ⟨g0,0,none⟩)),(7,.pointer (some ⟨g0,1,none⟩))] ?_
 refine st (Lr (some 8) 3 ⟨g0,1,none⟩ (.int .i64 r_.f_text.f_at) (H.cellB 0 rfl rfl) ?_)
 refine Sg 4 [.op [0] 9,.co [1]] [(0,.pointer (some ⟨g0,0,none⟩)),(9,.int .i64 (IntKind.i64.wrap (r_.f_text.f_at+1))),(12,.pointer (some ⟨g0,1,none⟩))] ?_
 refine st (Ss none 3 0 g0 1 (.int .i64 (IntKind.i64.wrap (r_.f_text.f_at+1))) H rfl rfl (of_decide_eq_true rfl) ?_)
 intro w1 H
 refine Sg 6 [.op [1,0] 3,.co [1,1]] [(0,.pointer (some ⟨g0,0,none⟩)),(15,.pointer (some ⟨g0,0,none⟩))] ?_
 obtain ⟨want,h_want,hf⟩:=bindE hf
 obtain ⟨F2,hse2,hFn2,hcl2⟩:=St.call [blkI g0 [.slice A0_0 r_.f_text.f_b.length c0_0,.int .i64 (IntKind.i64.wrap (r_.f_text.f_at+1)),.int .i64 r_.f_text.f_e,.slice A0_3 r_.f_l.length c0_3,.bool r_.f_full,.bool r_.f_more] 56] H
 refine st (Cl (some 16) 50 #[.pointer (some ⟨g0,0,none⟩),.int .u8 32] Tryd.call50 (manifest_text_want_c H.has g0 ({ f_text:=({ f_b:=r_.f_text.f_b,f_at:=(IntKind.i64.wrap (r_.f_text.f_at+1)),f_e:=r_.f_text.f_e }:TManifestText),f_l:=r_.f_l,f_full:=r_.f_full,f_more:=r_.f_more }:TManifestReader) A0_0 c0_0 s0_0 A0_3 c0_3 (32:UInt8) hse2 hFn2 h_want) ?_)
 rintro _ w2 ⟨A2_o0_0,c2_o0_0,mk2,rfl,hS2,hs2_0⟩
 have hsub2:=hS2.sub
 replace H:=hcl2 _ _ _ hS2
 refine Sg 2 [.co [1,1,0],.co [1,1,1]] [(0,.pointer (some ⟨g0,0,none⟩))] ?_
 obtain ⟨x_,h_x_,hf⟩:=bindE hf
 obtain ⟨i03,i13,ix3⟩:=idx_some h_x_
 have hst:statB (bodyOf Tryd.f43) [1,1,0]=true:=by kernel_rfl
 refine Dw (fun w' => Has mk2 w' ∧ w'.heap[g0]?=some (.cells [.slice A2_o0_0 want.f_text.f_b.length c2_o0_0,.int .i64 want.f_text.f_at,.int .i64 want.f_text.f_e,.slice A0_3 r_.f_l.length c0_3,.bool want.f_full,.bool want.f_more].toArray 56 (0,0))) H ?_
 intro w5 H
 refine Sk hst [0,1,2,4,5,6] [0,1,2,4,5,6] [(0,.pointer (some ⟨g0,0,none⟩)),(19,.pointer (some ⟨g0,3,none⟩)),(23,.pointer (some ⟨g0,3,none⟩))] ?_
 refine Tk (i:=3) (d:=(some 20)) (s:=vS (Instr.loadAt 22 (.pointer (some ⟨g0,3,none⟩)))) (v:=(.slice A0_3 r_.f_l.length c0_3)) hst (fun w' hw' => ld_run _ _ _ (by kernel_rfl) (blk_cell hw'.2 rfl)) ?_
 refine Sd (i:=7) ⟨H.has,H.blk 0 rfl⟩ (Lr (some 24) 22 ⟨g0,3,none⟩ (.slice A0_3 r_.f_l.length c0_3) (H.cellB 0 rfl rfl) ?_)
 refine Sk hst [8,9] [0,1,2,4,5,6,3,7,8,9] [(0,.pointer (some ⟨g0,0,none⟩)),(20,.slice A0_3 r_.f_l.length c0_3),(26,.int .i64 (IntKind.i64.wrap ((r_.f_l.length:Int) - 1)))] ?_
 obtain ⟨ad6,ea6⟩:=H.rowOA 1 rfl ix3
 refine Sd (i:=10) ⟨H.has,H.blk 0 rfl⟩ (Ix (some 27) 22 44 11 A0_3 ad6 r_.f_l.length c0_3 .i64 (IntKind.i64.wrap ((r_.f_l.length:Int) - 1)) ea6 i03 i13 ?_)
 refine Sk hst [11] [0,1,2,4,5,6,3,7,8,9,10,11] [(0,.pointer (some ⟨g0,0,none⟩)),(2,.pointer (some (ad6.add ((IntKind.i64.wrap ((r_.f_l.length:Int) - 1)).toNat * 11))))] ?_
 refine Ed ⟨H.has,H.blk 0 rfl⟩ ?_
 refine Sg 5 [.co [1,1,1,1,0],.co [1,1,1,1,1]] [(0,.pointer (some ⟨g0,0,none⟩)),(2,.pointer (some (ad6.add ((IntKind.i64.wrap ((r_.f_l.length:Int) - 1)).toNat * 11)))),(3,.int .i64 0)] ?_
 obtain ⟨y113,hp113,hf⟩:=bindE hf
 refine joinR 0 (fun (x:(List UInt8) × Int × Int × (List UInt8) × (List UInt8) × (List UInt8) × (List TApiAttr) × Bool × Bool × Nat × Option Addr × Nat × Option Addr × Nat × Option Addr × Nat × Mem) => [(0,.pointer (some ⟨g0,0,none⟩)),(3,.int .i64 (x.2.2.2.2.2.2.2.2.2.1:Int))]) (fun (x:(List UInt8) × Int × Int × (List UInt8) × (List UInt8) × (List UInt8) × (List TApiAttr) × Bool × Bool × Nat × Option Addr × Nat × Option Addr × Nat × Option Addr × Nat × Mem) (wj113:World) => y113=(x.1,x.2.1,x.2.2.1,x.2.2.2.1,x.2.2.2.2.1,x.2.2.2.2.2.1,x.2.2.2.2.2.2.1,x.2.2.2.2.2.2.2.1,x.2.2.2.2.2.2.2.2.1,x.2.2.2.2.2.2.2.2.2.1) ∧ St w F m x.2.2.2.2.2.2.2.2.2.2.2.2.2.2.2.2 [blkI g0 [.slice (x.2.2.2.2.2.2.2.2.2.2.1) x.1.length (x.2.2.2.2.2.2.2.2.2.2.2.1),.int .i64 x.2.1,.int .i64 x.2.2.1,.slice A0_3 r_.f_l.length c0_3,.bool x.2.2.2.2.2.2.2.1,.bool x.2.2.2.2.2.2.2.2.1] 56,holeO oApiEntry 44 A0_3 c0_3 r_.f_l ((IntKind.i64.wrap ((r_.f_l.length:Int) - 1)).toNat) [.string ⟨x.2.2.2.1.toArray⟩,.int .i64 x_.Kind,.int .i64 x_.Mode,.int .i64 x_.Uid,.int .i64 x_.Gid,.int .i64 x_.Time,.int .i64 x_.Size,.slice (x.2.2.2.2.2.2.2.2.2.2.2.2.1) x.2.2.2.2.1.length (x.2.2.2.2.2.2.2.2.2.2.2.2.2.1),.string ⟨x.2.2.2.2.2.1.toArray⟩,.int .i64 x_.Dev,.slice (x.2.2.2.2.2.2.2.2.2.2.2.2.2.2.1) x.2.2.2.2.2.2.1.length (x.2.2.2.2.2.2.2.2.2.2.2.2.2.2.2.1)],rowI rU8 5 (x.2.2.2.2.2.2.2.2.2.2.2.2.1) (x.2.2.2.2.2.2.2.2.2.2.2.2.2.1) x.2.2.2.2.1,rowI rApiAttr 46 (x.2.2.2.2.2.2.2.2.2.2.2.2.2.2.1) (x.2.2.2.2.2.2.2.2.2.2.2.2.2.2.2.1) x.2.2.2.2.2.2.1] wj113 ∧ Sub mk2 x.2.2.2.2.2.2.2.2.2.2.2.2.2.2.2.2 ∧ SlI rU8 x.2.2.2.2.2.2.2.2.2.2.2.2.2.2.2.2 x.2.2.2.2.2.2.2.2.2.2.1 x.2.2.2.2.2.2.2.2.2.2.2.1 x.1 ∧ x.2.2.2.1.length ≤ 9223372036854775807 ∧ x.2.2.2.2.2.1.length ≤ 9223372036854775807) (by kernel_rfl) ?_ ?_
 ·refine Sg 1 [.co [1,1,1,1,0,0],.bl 0,.le 0,.co [1,1,1,1,1]] [(0,.pointer (some ⟨g0,0,none⟩)),(2,.pointer (some (ad6.add ((IntKind.i64.wrap ((r_.f_l.length:Int) - 1)).toNat * 11)))),(3,.int .i64 0)] ?_
  obtain ⟨cs115,H⟩:=H.openO 1 rfl ix3
  obtain ⟨A115_7,c115_7,A115_10,c115_10,rfl,⟨hl115_0,hl115_8⟩,H⟩:=oApiEntry_open H
  replace H:St w F m mk2 [rowI rU8 5 A115_7 c115_7 x_.Data,rowI rApiAttr 46 A115_10 c115_10 x_.Attrs,holeO oApiEntry 44 A0_3 c0_3 r_.f_l ((IntKind.i64.wrap ((r_.f_l.length:Int) - 1)).toNat) [.string ⟨x_.Path.toArray⟩,.int .i64 x_.Kind,.int .i64 x_.Mode,.int .i64 x_.Uid,.int .i64 x_.Gid,.int .i64 x_.Time,.int .i64 x_.Size,.slice A115_7 x_.Data.length c115_7,.string ⟨x_.Target.toArray⟩,.int .i64 x_.Dev,.slice A115_10 x_.Attrs.length c115_10],blkI g0 [.slice A2_o0_0 want.f_text.f_b.length c2_o0_0,.int .i64 want.f_text.f_at,.int .i64 want.f_text.f_e,.slice A0_3 r_.f_l.length c0_3,.bool want.f_full,.bool want.f_more] 56] w5:=H
  obtain ⟨nn140,hR140⟩:=loopO_iff.1 hp113
  refine Lp 1 (fun (x:Nat × (List UInt8) × Int × Int × (List UInt8) × Bool × Bool × Nat × Option Addr × Nat × Option Addr × Nat × Mem) => [(0,.pointer (some ⟨g0,0,none⟩)),(2,.pointer (some (ad6.add ((IntKind.i64.wrap ((r_.f_l.length:Int) - 1)).toNat * 11)))),(3,.int .i64 (x.2.2.2.2.2.2.2.1:Int))]) (fun (x:Nat × (List UInt8) × Int × Int × (List UInt8) × Bool × Bool × Nat × Option Addr × Nat × Option Addr × Nat × Mem) (wl140:World) => iter (fun s => manifest_reader_data_l1 r_ x_ s.1 s.2.1 s.2.2.1 s.2.2.2.1 s.2.2.2.2.1 s.2.2.2.2.2.1 s.2.2.2.2.2.2) x.1 (x.2.1,x.2.2.1,x.2.2.2.1,x.2.2.2.2.1,x.2.2.2.2.2.1,x.2.2.2.2.2.2.1,x.2.2.2.2.2.2.2.1)=some y113 ∧ St w F m x.2.2.2.2.2.2.2.2.2.2.2.2 [blkI g0 [.slice (x.2.2.2.2.2.2.2.2.1) x.2.1.length (x.2.2.2.2.2.2.2.2.2.1),.int .i64 x.2.2.1,.int .i64 x.2.2.2.1,.slice A0_3 r_.f_l.length c0_3,.bool x.2.2.2.2.2.1,.bool x.2.2.2.2.2.2.1] 56,holeO oApiEntry 44 A0_3 c0_3 r_.f_l ((IntKind.i64.wrap ((r_.f_l.length:Int) - 1)).toNat) [.string ⟨x_.Path.toArray⟩,.int .i64 x_.Kind,.int .i64 x_.Mode,.int .i64 x_.Uid,.int .i64 x_.Gid,.int .i64 x_.Time,.int .i64 x_.Size,.slice (x.2.2.2.2.2.2.2.2.2.2.1) x.2.2.2.2.1.length (x.2.2.2.2.2.2.2.2.2.2.2.1),.string ⟨x_.Target.toArray⟩,.int .i64 x_.Dev,.slice A115_10 x_.Attrs.length c115_10],rowI rU8 5 (x.2.2.2.2.2.2.2.2.2.2.1) (x.2.2.2.2.2.2.2.2.2.2.2.1) x.2.2.2.2.1,rowI rApiAttr 46 A115_10 c115_10 x_.Attrs] wl140 ∧ Sub mk2 x.2.2.2.2.2.2.2.2.2.2.2.2 ∧ SlI rU8 x.2.2.2.2.2.2.2.2.2.2.2.2 x.2.2.2.2.2.2.2.2.1 x.2.2.2.2.2.2.2.2.2.1 x.2.1) (fun (x:Nat × (List UInt8) × Int × Int × (List UInt8) × Bool × Bool × Nat × Option Addr × Nat × Option Addr × Nat × Mem) => x.1) (nn140,want.f_text.f_b,want.f_text.f_at,want.f_text.f_e,x_.Data,want.f_full,want.f_more,0,A2_o0_0,c2_o0_0,A115_7,c115_7,mk2) ?_ ?_
  ·exact ⟨hR140,((((H.pull 1 rfl).pull 1 rfl).pull 2 rfl).pull 3 rfl),(Sub.refl _),hs2_0⟩
  rintro ⟨n140,b,at_,e_,Data,full,more,n_,A_1_141,c_2_141,A_3_141,c_4_141,mm141⟩ wl140 ⟨hR140,H,hsub141,hs141_0⟩
  try dsimp only at hR140
  try dsimp only at H
  try dsimp only at hsub141
  try dsimp only at hs141_0
  obtain ⟨nk140,q140,rfl,hb_140,hnx140,hfin140⟩:=iterE hR140
  replace hb_140:manifest_reader_data_l1 r_ x_ b at_ e_ Data full more n_=some q140:=hb_140
  unfold manifest_reader_data_l1 at hb_140
  refine Sg 6 [.op [1,1,1,1,0,0,0,0,0] 3,.co [1,1,1,1,0,0,0,0,1],.co [1,1,1,1,0,0,0,1],.le 1,.bl 0,.le 0,.co [1,1,1,1,1]] [(0,.pointer (some ⟨g0,0,none⟩)),(2,.pointer (some (ad6.add ((IntKind.i64.wrap ((r_.f_l.length:Int) - 1)).toNat * 11)))),(3,.int .i64 (n_:Int)),(30,.bool (decide ((n_:Int) < 32)))] ?_
  rcases condT hb_140 with ⟨hb142,hb_140⟩ | ⟨hb142,hb_140⟩
  ·rw [hb142]
   have p142:=of_decide_eq_true hb142
   refine Sg 3 [.op [1,1,1,1,0,0,0,0,0] 6,.co [1,1,1,1,0,0,0,0,1],.co [1,1,1,1,0,0,0,1],.le 1,.bl 0,.le 0,.co [1,1,1,1,1]] [(0,.pointer (some ⟨g0,0,none⟩)),(2,.pointer (some (ad6.add ((IntKind.i64.wrap ((r_.f_l.length:Int) - 1)).toNat * 11)))),(3,.int .i64 (n_:Int)),(30,.bool true),(33,.bool ((n_:Int) == 0))] ?_
   rcases condT hb_140 with ⟨hb143,hb_140⟩ | ⟨hb143,hb_140⟩
   ·rw [hb143]
    refine Sg 12 [.op [1,1,1,1,0,0,0,0,0] 18,.co [1,1,1,1,0,0,0,0,1],.co [1,1,1,1,0,0,0,1],.le 1,.bl 0,.le 0,.co [1,1,1,1,1]] [(0,.pointer (some ⟨g0,0,none⟩)),(2,.pointer (some (ad6.add ((IntKind.i64.wrap ((r_.f_l.length:Int) - 1)).toNat * 11)))),(3,.int .i64 (n_:Int)),(41,.bool true),(45,.pointer (some ⟨g0,2,none⟩))] ?_
    replace H:St w F m mm141 [blkI g0 [.slice A_1_141 b.length c_2_141,.int .i64 at_,.int .i64 e_,.slice A0_3 r_.f_l.length c0_3,.bool full,.bool more] 56,holeO oApiEntry 44 A0_3 c0_3 r_.f_l ((IntKind.i64.wrap ((r_.f_l.length:Int) - 1)).toNat) [.string ⟨x_.Path.toArray⟩,.int .i64 x_.Kind,.int .i64 x_.Mode,.int .i64 x_.Uid,.int .i64 x_.Gid,.int .i64 x_.Time,.int .i64 x_.Size,.slice A_3_141 Data.length c_4_141,.string ⟨x_.Target.toArray⟩,.int .i64 x_.Dev,.slice A115_10 x_.Attrs.length c115_10],rowI rU8 5 A_3_141 c_4_141 Data,rowI rApiAttr 46 A115_10 c115_10 x_.Attrs] wl140:=H
    refine st (Lr (some 46) 26 ⟨g0,2,none⟩ (.int .i64 e_) (H.cellB 0 rfl rfl) ?_)
    refine Sg 3 [.co [1,1,1,1,0,0,0,0,1],.co [1,1,1,1,0,0,0,1],.le 1,.bl 0,.le 0,.co [1,1,1,1,1]] [(0,.pointer (some ⟨g0,0,none⟩)),(2,.pointer (some (ad6.add ((IntKind.i64.wrap ((r_.f_l.length:Int) - 1)).toNat * 11)))),(3,.int .i64 (n_:Int)),(48,.bool (e_ == 0))] ?_
    rcases condT hb_140 with ⟨hb144,hb_140⟩ | ⟨hb144,hb_140⟩
    ·rw [hb144]
     refine Sg 4 [.co [1,1,1,1,0,0,0,1,0,0],.co [1,1,1,1,0,0,0,1,0,1],.bl 1,.le 1,.bl 0,.le 0,.co [1,1,1,1,1]] [(0,.pointer (some ⟨g0,0,none⟩)),(2,.pointer (some (ad6.add ((IntKind.i64.wrap ((r_.f_l.length:Int) - 1)).toNat * 11)))),(3,.int .i64 (n_:Int))] ?_
     obtain ⟨pair,h_pair,hb_140⟩:=bindE hb_140
     obtain ⟨b1,h_b1,hb_140⟩:=bindE hb_140
     have hst:statB (bodyOf Tryd.f43) [1,1,1,1,0,0,0,1,0,0]=true:=by kernel_rfl
     refine Dw (Has mm141) H ?_
     intro w150 H
     refine Sk hst [0,1,2,3,5] [0,1,2,3,5] [(0,.pointer (some ⟨g0,0,none⟩)),(2,.pointer (some (ad6.add ((IntKind.i64.wrap ((r_.f_l.length:Int) - 1)).toNat * 11)))),(3,.int .i64 (n_:Int)),(49,.pointer (some (ad6.add ((IntKind.i64.wrap ((r_.f_l.length:Int) - 1)).toNat * 11)))),(52,.pointer (some ((ad6.add ((IntKind.i64.wrap ((r_.f_l.length:Int) - 1)).toNat * 11)).add 7))),(54,.pointer (some ⟨g0,0,none⟩))] ?_
     refine allD2 [4,6] (by kernel_rfl) H.has ⟨?_,?_,trivial⟩
     ·replace H:St w F m mm141 [blkI g0 [.slice A_1_141 b.length c_2_141,.int .i64 at_,.int .i64 e_,.slice A0_3 r_.f_l.length c0_3,.bool full,.bool more] 56,holeO oApiEntry 44 A0_3 c0_3 r_.f_l ((IntKind.i64.wrap ((r_.f_l.length:Int) - 1)).toNat) [.string ⟨x_.Path.toArray⟩,.int .i64 x_.Kind,.int .i64 x_.Mode,.int .i64 x_.Uid,.int .i64 x_.Gid,.int .i64 x_.Time,.int .i64 x_.Size,.slice A_3_141 Data.length c_4_141,.string ⟨x_.Target.toArray⟩,.int .i64 x_.Dev,.slice A115_10 x_.Attrs.length c115_10],rowI rU8 5 A_3_141 c_4_141 Data,rowI rApiAttr 46 A115_10 c115_10 x_.Attrs] w150:=H
      have hc152:=H.holeCell 1 rfl ea6 (by decide)
      refine (Lr (some 53) 25 ((ad6.add ((IntKind.i64.wrap ((r_.f_l.length:Int) - 1)).toNat * 11)).add 7) (.slice A_3_141 Data.length c_4_141) (hc152 7 _ rfl) ?_)
      obtain ⟨F153,hse153,hFn153,hcl153⟩:=St.call [blkI g0 [.slice A_1_141 b.length c_2_141,.int .i64 at_,.int .i64 e_,.slice A0_3 r_.f_l.length c0_3,.bool full,.bool more] 56] H
      refine Sd (i:=6) H.has (Cl (some 55) 38 #[.pointer (some ⟨g0,0,none⟩)] Tryd.call38 (manifest_reader_pair_c H.has g0 ({ f_text:=({ f_b:=b,f_at:=at_,f_e:=e_ }:TManifestText),f_l:=r_.f_l,f_full:=full,f_more:=more }:TManifestReader) A_1_141 c_2_141 hs141_0 A0_3 c0_3 hse153 hFn153 h_pair) ?_)
      rintro _ w153 ⟨A153_o0_0,c153_o0_0,mk153,rfl,hS153,hs153_0⟩
      have hsub153:=hS153.sub
      replace H:=hcl153 _ _ _ hS153
      refine Sd (i:=7) (H.has.sub hsub153) (Nw (some 56) (fun g => .slice (some ⟨g,0,none⟩) 1 1) [.int .u8 (pair.1.toNat:Int)] 5 H ?_)
      intro g154 w154 H
      refine Sd (i:=8) (H.has.sub hsub153) (appS (r:=rU8) (some 57) 25 5 1 (.int .u8 0) 25 3 A_3_141 (some ⟨g154,0,none⟩) c_4_141 1 1 Data [pair.1] b1 _ H rfl ⟨Tryd.underlying25,by kernel_rfl⟩ rfl (by decide) (by kernel_rfl) (Cs.of_blk (H.blk 0 rfl)) (Rows.u8.2 rfl) rfl h_b1 (by decide) (by decide) ?_)
      intro A155 c155 w155 H
      replace H:=H.drop 0 rfl
      refine Sk hst [9,10] [0,1,2,3,5,4,6,7,8,9,10] [(0,.pointer (some ⟨g0,0,none⟩)),(2,.pointer (some (ad6.add ((IntKind.i64.wrap ((r_.f_l.length:Int) - 1)).toNat * 11)))),(3,.int .i64 (n_:Int)),(57,.slice A155 b1.length c155),(59,.pointer (some ((ad6.add ((IntKind.i64.wrap ((r_.f_l.length:Int) - 1)).toNat * 11)).add 7)))] ?_
      refine Sd (i:=11) (H.has.sub hsub153) (stHole none 25 1 ((IntKind.i64.wrap ((r_.f_l.length:Int) - 1)).toNat) 7 A0_3 c0_3 r_.f_l 44 [.string ⟨x_.Path.toArray⟩,.int .i64 x_.Kind,.int .i64 x_.Mode,.int .i64 x_.Uid,.int .i64 x_.Gid,.int .i64 x_.Time,.int .i64 x_.Size,.slice A_3_141 Data.length c_4_141,.string ⟨x_.Target.toArray⟩,.int .i64 x_.Dev,.slice A115_10 x_.Attrs.length c115_10] (.slice A155 b1.length c155) ad6 H rfl ea6 (by kernel_rfl) (by kernel_rfl) rfl (of_decide_eq_true rfl) ?_)
      intro w156 H
      replace H:St w F m mk153 [holeO oApiEntry 44 A0_3 c0_3 r_.f_l ((IntKind.i64.wrap ((r_.f_l.length:Int) - 1)).toNat) [.string ⟨x_.Path.toArray⟩,.int .i64 x_.Kind,.int .i64 x_.Mode,.int .i64 x_.Uid,.int .i64 x_.Gid,.int .i64 x_.Time,.int .i64 x_.Size,.slice A155 b1.length c155,.string ⟨x_.Target.toArray⟩,.int .i64 x_.Dev,.slice A115_10 x_.Attrs.length c115_10],blkI g0 [.slice A153_o0_0 pair.2.f_text.f_b.length c153_o0_0,.int .i64 pair.2.f_text.f_at,.int .i64 pair.2.f_text.f_e,.slice A0_3 r_.f_l.length c0_3,.bool pair.2.f_full,.bool pair.2.f_more] 56,rowI rU8 5 A155 c155 b1,rowI rApiAttr 46 A115_10 c115_10 x_.Attrs] w156:=H
      refine Ed (H.has.sub hsub153) ?_
      refine Sg 6 [.le 1,.bl 0,.le 0,.co [1,1,1,1,1]] [(0,.pointer (some ⟨g0,0,none⟩)),(2,.pointer (some (ad6.add ((IntKind.i64.wrap ((r_.f_l.length:Int) - 1)).toNat * 11)))),(3,.int .i64 (IntKind.i64.wrap ((n_:Int)+1)))] ?_
      rw [show IntKind.i64.wrap ((n_:Int)+1)=((n_:Int)+1) from w64 (by omega)]
      refine Lq (nk140,pair.2.f_text.f_b,pair.2.f_text.f_at,pair.2.f_text.f_e,b1,pair.2.f_full,pair.2.f_more,(n_+1),A153_o0_0,c153_o0_0,A155,c155,mk153) (Nat.lt_succ_self _) ⟨hnx140 _ (Option.some.inj hb_140).symm,((((H.pull 3 rfl).pull 3 rfl).pull 2 rfl).pull 3 rfl),(hsub141.trans hsub153),hs153_0⟩
     ·replace H:St w F m mm141 [blkI g0 [.slice A_1_141 b.length c_2_141,.int .i64 at_,.int .i64 e_,.slice A0_3 r_.f_l.length c0_3,.bool full,.bool more] 56,holeO oApiEntry 44 A0_3 c0_3 r_.f_l ((IntKind.i64.wrap ((r_.f_l.length:Int) - 1)).toNat) [.string ⟨x_.Path.toArray⟩,.int .i64 x_.Kind,.int .i64 x_.Mode,.int .i64 x_.Uid,.int .i64 x_.Gid,.int .i64 x_.Time,.int .i64 x_.Size,.slice A_3_141 Data.length c_4_141,.string ⟨x_.Target.toArray⟩,.int .i64 x_.Dev,.slice A115_10 x_.Attrs.length c115_10],rowI rU8 5 A_3_141 c_4_141 Data,rowI rApiAttr 46 A115_10 c115_10 x_.Attrs] w150:=H
      obtain ⟨F157,hse157,hFn157,hcl157⟩:=St.call [blkI g0 [.slice A_1_141 b.length c_2_141,.int .i64 at_,.int .i64 e_,.slice A0_3 r_.f_l.length c0_3,.bool full,.bool more] 56] H
      refine (Cl (some 55) 38 #[.pointer (some ⟨g0,0,none⟩)] Tryd.call38 (manifest_reader_pair_c H.has g0 ({ f_text:=({ f_b:=b,f_at:=at_,f_e:=e_ }:TManifestText),f_l:=r_.f_l,f_full:=full,f_more:=more }:TManifestReader) A_1_141 c_2_141 hs141_0 A0_3 c0_3 hse157 hFn157 h_pair) ?_)
      rintro _ w157 ⟨A157_o0_0,c157_o0_0,mk157,rfl,hS157,hs157_0⟩
      have hsub157:=hS157.sub
      replace H:=hcl157 _ _ _ hS157
      refine allD2 [4,7] (by kernel_rfl) (H.has.sub hsub157) ⟨?_,?_,trivial⟩
      ·have hc159:=H.holeCell 1 rfl ea6 (by decide)
       refine (Lr (some 53) 25 ((ad6.add ((IntKind.i64.wrap ((r_.f_l.length:Int) - 1)).toNat * 11)).add 7) (.slice A_3_141 Data.length c_4_141) (hc159 7 _ rfl) ?_)
       refine Sd (i:=7) (H.has.sub hsub157) (Nw (some 56) (fun g => .slice (some ⟨g,0,none⟩) 1 1) [.int .u8 (pair.1.toNat:Int)] 5 H ?_)
       intro g160 w160 H
       refine Sd (i:=8) (H.has.sub hsub157) (appS (r:=rU8) (some 57) 25 5 1 (.int .u8 0) 25 3 A_3_141 (some ⟨g160,0,none⟩) c_4_141 1 1 Data [pair.1] b1 _ H rfl ⟨Tryd.underlying25,by kernel_rfl⟩ rfl (by decide) (by kernel_rfl) (Cs.of_blk (H.blk 0 rfl)) (Rows.u8.2 rfl) rfl h_b1 (by decide) (by decide) ?_)
       intro A161 c161 w161 H
       replace H:=H.drop 0 rfl
       refine Sk hst [9,10] [0,1,2,3,5,6,4,7,8,9,10] [(0,.pointer (some ⟨g0,0,none⟩)),(2,.pointer (some (ad6.add ((IntKind.i64.wrap ((r_.f_l.length:Int) - 1)).toNat * 11)))),(3,.int .i64 (n_:Int)),(57,.slice A161 b1.length c161),(59,.pointer (some ((ad6.add ((IntKind.i64.wrap ((r_.f_l.length:Int) - 1)).toNat * 11)).add 7)))] ?_
       refine Sd (i:=11) (H.has.sub hsub157) (stHole none 25 1 ((IntKind.i64.wrap ((r_.f_l.length:Int) - 1)).toNat) 7 A0_3 c0_3 r_.f_l 44 [.string ⟨x_.Path.toArray⟩,.int .i64 x_.Kind,.int .i64 x_.Mode,.int .i64 x_.Uid,.int .i64 x_.Gid,.int .i64 x_.Time,.int .i64 x_.Size,.slice A_3_141 Data.length c_4_141,.string ⟨x_.Target.toArray⟩,.int .i64 x_.Dev,.slice A115_10 x_.Attrs.length c115_10] (.slice A161 b1.length c161) ad6 H rfl ea6 (by kernel_rfl) (by kernel_rfl) rfl (of_decide_eq_true rfl) ?_)
       intro w162 H
       replace H:St w F m mk157 [holeO oApiEntry 44 A0_3 c0_3 r_.f_l ((IntKind.i64.wrap ((r_.f_l.length:Int) - 1)).toNat) [.string ⟨x_.Path.toArray⟩,.int .i64 x_.Kind,.int .i64 x_.Mode,.int .i64 x_.Uid,.int .i64 x_.Gid,.int .i64 x_.Time,.int .i64 x_.Size,.slice A161 b1.length c161,.string ⟨x_.Target.toArray⟩,.int .i64 x_.Dev,.slice A115_10 x_.Attrs.length c115_10],blkI g0 [.slice A157_o0_0 pair.2.f_text.f_b.length c157_o0_0,.int .i64 pair.2.f_text.f_at,.int .i64 pair.2.f_text.f_e,.slice A0_3 r_.f_l.length c0_3,.bool pair.2.f_full,.bool pair.2.f_more] 56,rowI rU8 5 A161 c161 b1,rowI rApiAttr 46 A115_10 c115_10 x_.Attrs] w162:=H
       refine Ed (H.has.sub hsub157) ?_
       refine Sg 6 [.le 1,.bl 0,.le 0,.co [1,1,1,1,1]] [(0,.pointer (some ⟨g0,0,none⟩)),(2,.pointer (some (ad6.add ((IntKind.i64.wrap ((r_.f_l.length:Int) - 1)).toNat * 11)))),(3,.int .i64 (IntKind.i64.wrap ((n_:Int)+1)))] ?_
       rw [show IntKind.i64.wrap ((n_:Int)+1)=((n_:Int)+1) from w64 (by omega)]
       refine Lq (nk140,pair.2.f_text.f_b,pair.2.f_text.f_at,pair.2.f_text.f_e,b1,pair.2.f_full,pair.2.f_more,(n_+1),A157_o0_0,c157_o0_0,A161,c161,mk157) (Nat.lt_succ_self _) ⟨hnx140 _ (Option.some.inj hb_140).symm,((((H.pull 3 rfl).pull 3 rfl).pull 2 rfl).pull 3 rfl),(hsub141.trans hsub157),hs157_0⟩
      ·replace H:St w F m mk157 [blkI g0 [.slice A157_o0_0 pair.2.f_text.f_b.length c157_o0_0,.int .i64 pair.2.f_text.f_at,.int .i64 pair.2.f_text.f_e,.slice A0_3 r_.f_l.length c0_3,.bool pair.2.f_full,.bool pair.2.f_more] 56,holeO oApiEntry 44 A0_3 c0_3 r_.f_l ((IntKind.i64.wrap ((r_.f_l.length:Int) - 1)).toNat) [.string ⟨x_.Path.toArray⟩,.int .i64 x_.Kind,.int .i64 x_.Mode,.int .i64 x_.Uid,.int .i64 x_.Gid,.int .i64 x_.Time,.int .i64 x_.Size,.slice A_3_141 Data.length c_4_141,.string ⟨x_.Target.toArray⟩,.int .i64 x_.Dev,.slice A115_10 x_.Attrs.length c115_10],rowI rU8 5 A_3_141 c_4_141 Data,rowI rApiAttr 46 A115_10 c115_10 x_.Attrs] w157:=H
       refine (Nw (some 56) (fun g => .slice (some ⟨g,0,none⟩) 1 1) [.int .u8 (pair.1.toNat:Int)] 5 H ?_)
       intro g163 w163 H
       have hc164:=H.holeCell 2 rfl ea6 (by decide)
       refine Sd (i:=4) (H.has.sub hsub157) (Lr (some 53) 25 ((ad6.add ((IntKind.i64.wrap ((r_.f_l.length:Int) - 1)).toNat * 11)).add 7) (.slice A_3_141 Data.length c_4_141) (hc164 7 _ rfl) ?_)
       refine Sd (i:=8) (H.has.sub hsub157) (appS (r:=rU8) (some 57) 25 5 1 (.int .u8 0) 25 3 A_3_141 (some ⟨g163,0,none⟩) c_4_141 1 1 Data [pair.1] b1 _ H rfl ⟨Tryd.underlying25,by kernel_rfl⟩ rfl (by decide) (by kernel_rfl) (Cs.of_blk (H.blk 0 rfl)) (Rows.u8.2 rfl) rfl h_b1 (by decide) (by decide) ?_)
       intro A165 c165 w165 H
       replace H:=H.drop 0 rfl
       refine Sk hst [9,10] [0,1,2,3,5,6,7,4,8,9,10] [(0,.pointer (some ⟨g0,0,none⟩)),(2,.pointer (some (ad6.add ((IntKind.i64.wrap ((r_.f_l.length:Int) - 1)).toNat * 11)))),(3,.int .i64 (n_:Int)),(57,.slice A165 b1.length c165),(59,.pointer (some ((ad6.add ((IntKind.i64.wrap ((r_.f_l.length:Int) - 1)).toNat * 11)).add 7)))] ?_
       refine Sd (i:=11) (H.has.sub hsub157) (stHole none 25 1 ((IntKind.i64.wrap ((r_.f_l.length:Int) - 1)).toNat) 7 A0_3 c0_3 r_.f_l 44 [.string ⟨x_.Path.toArray⟩,.int .i64 x_.Kind,.int .i64 x_.Mode,.int .i64 x_.Uid,.int .i64 x_.Gid,.int .i64 x_.Time,.int .i64 x_.Size,.slice A_3_141 Data.length c_4_141,.string ⟨x_.Target.toArray⟩,.int .i64 x_.Dev,.slice A115_10 x_.Attrs.length c115_10] (.slice A165 b1.length c165) ad6 H rfl ea6 (by kernel_rfl) (by kernel_rfl) rfl (of_decide_eq_true rfl) ?_)
       intro w166 H
       replace H:St w F m mk157 [holeO oApiEntry 44 A0_3 c0_3 r_.f_l ((IntKind.i64.wrap ((r_.f_l.length:Int) - 1)).toNat) [.string ⟨x_.Path.toArray⟩,.int .i64 x_.Kind,.int .i64 x_.Mode,.int .i64 x_.Uid,.int .i64 x_.Gid,.int .i64 x_.Time,.int .i64 x_.Size,.slice A165 b1.length c165,.string ⟨x_.Target.toArray⟩,.int .i64 x_.Dev,.slice A115_10 x_.Attrs.length c115_10],blkI g0 [.slice A157_o0_0 pair.2.f_text.f_b.length c157_o0_0,.int .i64 pair.2.f_text.f_at,.int .i64 pair.2.f_text.f_e,.slice A0_3 r_.f_l.length c0_3,.bool pair.2.f_full,.bool pair.2.f_more] 56,rowI rU8 5 A165 c165 b1,rowI rApiAttr 46 A115_10 c115_10 x_.Attrs] w166:=H
       refine Ed (H.has.sub hsub157) ?_
       refine Sg 6 [.le 1,.bl 0,.le 0,.co [1,1,1,1,1]] [(0,.pointer (some ⟨g0,0,none⟩)),(2,.pointer (some (ad6.add ((IntKind.i64.wrap ((r_.f_l.length:Int) - 1)).toNat * 11)))),(3,.int .i64 (IntKind.i64.wrap ((n_:Int)+1)))] ?_
       rw [show IntKind.i64.wrap ((n_:Int)+1)=((n_:Int)+1) from w64 (by omega)]
       refine Lq (nk140,pair.2.f_text.f_b,pair.2.f_text.f_at,pair.2.f_text.f_e,b1,pair.2.f_full,pair.2.f_more,(n_+1),A157_o0_0,c157_o0_0,A165,c165,mk157) (Nat.lt_succ_self _) ⟨hnx140 _ (Option.some.inj hb_140).symm,((((H.pull 3 rfl).pull 3 rfl).pull 2 rfl).pull 3 rfl),(hsub141.trans hsub157),hs157_0⟩
    ·rw [hb144]
     refine Sg 2 [.le 0,.co [1,1,1,1,1]] [(0,.pointer (some ⟨g0,0,none⟩)),(3,.int .i64 (n_:Int))] ?_
     refine leR_up (k':=[]) (by rfl) ?_
     refine Lj (b,at_,e_,x_.Path,Data,x_.Target,x_.Attrs,full,more,n_,A_1_141,c_2_141,A_3_141,c_4_141,A115_10,c115_10,mm141) ⟨(hfin140 _ (Option.some.inj hb_140).symm).symm,H,hsub141,hs141_0,hl115_0,hl115_8⟩
   ·rw [hb143]
    refine Sg 3 [.op [1,1,1,1,0,0,0,0,0] 9,.co [1,1,1,1,0,0,0,0,1],.co [1,1,1,1,0,0,0,1],.le 1,.bl 0,.le 0,.co [1,1,1,1,1]] [(0,.pointer (some ⟨g0,0,none⟩)),(2,.pointer (some (ad6.add ((IntKind.i64.wrap ((r_.f_l.length:Int) - 1)).toNat * 11)))),(3,.int .i64 (n_:Int)),(30,.bool true),(33,.bool false),(36,.pointer (some ⟨g0,0,none⟩))] ?_
    obtain ⟨peek,h_peek,hb_140⟩:=bindE hb_140
    obtain ⟨F167,hse167,hFn167,hcl167⟩:=St.call [blkI g0 [.slice A_1_141 b.length c_2_141,.int .i64 at_,.int .i64 e_,.slice A0_3 r_.f_l.length c0_3,.bool full,.bool more] 56] H
    refine st (Cl (some 37) 37 #[.pointer (some ⟨g0,0,none⟩)] Tryd.call37 (manifest_text_peek_c H.has g0 ({ f_text:=({ f_b:=b,f_at:=at_,f_e:=e_ }:TManifestText),f_l:=r_.f_l,f_full:=full,f_more:=more }:TManifestReader) A_1_141 c_2_141 hs141_0 A0_3 c0_3 hse167 hFn167 h_peek) ?_)
    rintro _ w167 ⟨mk167,rfl,hS167⟩
    have hsub167:=hS167.sub
    replace H:=hcl167 _ _ _ hS167
    refine Sg 4 [.op [1,1,1,1,0,0,0,0,0] 14,.co [1,1,1,1,0,0,0,0,1],.co [1,1,1,1,0,0,0,1],.le 1,.bl 0,.le 0,.co [1,1,1,1,1]] [(0,.pointer (some ⟨g0,0,none⟩)),(2,.pointer (some (ad6.add ((IntKind.i64.wrap ((r_.f_l.length:Int) - 1)).toNat * 11)))),(3,.int .i64 (n_:Int)),(41,.bool ((peek.toNat:Int) != 10))] ?_
    rcases condT hb_140 with ⟨hb168,hb_140⟩ | ⟨hb168,hb_140⟩
    ·rw [hb168]
     refine Sg 4 [.op [1,1,1,1,0,0,0,0,0] 18,.co [1,1,1,1,0,0,0,0,1],.co [1,1,1,1,0,0,0,1],.le 1,.bl 0,.le 0,.co [1,1,1,1,1]] [(0,.pointer (some ⟨g0,0,none⟩)),(2,.pointer (some (ad6.add ((IntKind.i64.wrap ((r_.f_l.length:Int) - 1)).toNat * 11)))),(3,.int .i64 (n_:Int)),(41,.bool true),(45,.pointer (some ⟨g0,2,none⟩))] ?_
     replace H:St w F m mk167 [blkI g0 [.slice A_1_141 b.length c_2_141,.int .i64 at_,.int .i64 e_,.slice A0_3 r_.f_l.length c0_3,.bool full,.bool more] 56,holeO oApiEntry 44 A0_3 c0_3 r_.f_l ((IntKind.i64.wrap ((r_.f_l.length:Int) - 1)).toNat) [.string ⟨x_.Path.toArray⟩,.int .i64 x_.Kind,.int .i64 x_.Mode,.int .i64 x_.Uid,.int .i64 x_.Gid,.int .i64 x_.Time,.int .i64 x_.Size,.slice A_3_141 Data.length c_4_141,.string ⟨x_.Target.toArray⟩,.int .i64 x_.Dev,.slice A115_10 x_.Attrs.length c115_10],rowI rU8 5 A_3_141 c_4_141 Data,rowI rApiAttr 46 A115_10 c115_10 x_.Attrs] w167:=H
     refine st (Lr (some 46) 26 ⟨g0,2,none⟩ (.int .i64 e_) (H.cellB 0 rfl rfl) ?_)
     refine Sg 3 [.co [1,1,1,1,0,0,0,0,1],.co [1,1,1,1,0,0,0,1],.le 1,.bl 0,.le 0,.co [1,1,1,1,1]] [(0,.pointer (some ⟨g0,0,none⟩)),(2,.pointer (some (ad6.add ((IntKind.i64.wrap ((r_.f_l.length:Int) - 1)).toNat * 11)))),(3,.int .i64 (n_:Int)),(48,.bool (e_ == 0))] ?_
     rcases condT hb_140 with ⟨hb169,hb_140⟩ | ⟨hb169,hb_140⟩
     ·rw [hb169]
      refine Sg 4 [.co [1,1,1,1,0,0,0,1,0,0],.co [1,1,1,1,0,0,0,1,0,1],.bl 1,.le 1,.bl 0,.le 0,.co [1,1,1,1,1]] [(0,.pointer (some ⟨g0,0,none⟩)),(2,.pointer (some (ad6.add ((IntKind.i64.wrap ((r_.f_l.length:Int) - 1)).toNat * 11)))),(3,.int .i64 (n_:Int))] ?_
      obtain ⟨pair1,h_pair1,hb_140⟩:=bindE hb_140
      obtain ⟨b2,h_b2,hb_140⟩:=bindE hb_140
      have hst:statB (bodyOf Tryd.f43) [1,1,1,1,0,0,0,1,0,0]=true:=by kernel_rfl
      refine Dw (Has mk167) H ?_
      intro w175 H
      refine Sk hst [0,1,2,3,5] [0,1,2,3,5] [(0,.pointer (some ⟨g0,0,none⟩)),(2,.pointer (some (ad6.add ((IntKind.i64.wrap ((r_.f_l.length:Int) - 1)).toNat * 11)))),(3,.int .i64 (n_:Int)),(49,.pointer (some (ad6.add ((IntKind.i64.wrap ((r_.f_l.length:Int) - 1)).toNat * 11)))),(52,.pointer (some ((ad6.add ((IntKind.i64.wrap ((r_.f_l.length:Int) - 1)).toNat * 11)).add 7))),(54,.pointer (some ⟨g0,0,none⟩))] ?_
      refine allD2 [4,6] (by kernel_rfl) H.has ⟨?_,?_,trivial⟩
      ·replace H:St w F m mk167 [blkI g0 [.slice A_1_141 b.length c_2_141,.int .i64 at_,.int .i64 e_,.slice A0_3 r_.f_l.length c0_3,.bool full,.bool more] 56,holeO oApiEntry 44 A0_3 c0_3 r_.f_l ((IntKind.i64.wrap ((r_.f_l.length:Int) - 1)).toNat) [.string ⟨x_.Path.toArray⟩,.int .i64 x_.Kind,.int .i64 x_.Mode,.int .i64 x_.Uid,.int .i64 x_.Gid,.int .i64 x_.Time,.int .i64 x_.Size,.slice A_3_141 Data.length c_4_141,.string ⟨x_.Target.toArray⟩,.int .i64 x_.Dev,.slice A115_10 x_.Attrs.length c115_10],rowI rU8 5 A_3_141 c_4_141 Data,rowI rApiAttr 46 A115_10 c115_10 x_.Attrs] w175:=H
       have hc177:=H.holeCell 1 rfl ea6 (by decide)
       refine (Lr (some 53) 25 ((ad6.add ((IntKind.i64.wrap ((r_.f_l.length:Int) - 1)).toNat * 11)).add 7) (.slice A_3_141 Data.length c_4_141) (hc177 7 _ rfl) ?_)
       obtain ⟨F178,hse178,hFn178,hcl178⟩:=St.call [blkI g0 [.slice A_1_141 b.length c_2_141,.int .i64 at_,.int .i64 e_,.slice A0_3 r_.f_l.length c0_3,.bool full,.bool more] 56] H
       refine Sd (i:=6) H.has (Cl (some 55) 38 #[.pointer (some ⟨g0,0,none⟩)] Tryd.call38 (manifest_reader_pair_c H.has g0 ({ f_text:=({ f_b:=b,f_at:=at_,f_e:=e_ }:TManifestText),f_l:=r_.f_l,f_full:=full,f_more:=more }:TManifestReader) A_1_141 c_2_141 (hs141_0.mono hsub167) A0_3 c0_3 hse178 hFn178 h_pair1) ?_)
       rintro _ w178 ⟨A178_o0_0,c178_o0_0,mk178,rfl,hS178,hs178_0⟩
       have hsub178:=hS178.sub
       replace H:=hcl178 _ _ _ hS178
       refine Sd (i:=7) (H.has.sub hsub178) (Nw (some 56) (fun g => .slice (some ⟨g,0,none⟩) 1 1) [.int .u8 (pair1.1.toNat:Int)] 5 H ?_)
       intro g179 w179 H
       refine Sd (i:=8) (H.has.sub hsub178) (appS (r:=rU8) (some 57) 25 5 1 (.int .u8 0) 25 3 A_3_141 (some ⟨g179,0,none⟩) c_4_141 1 1 Data [pair1.1] b2 _ H rfl ⟨Tryd.underlying25,by kernel_rfl⟩ rfl (by decide) (by kernel_rfl) (Cs.of_blk (H.blk 0 rfl)) (Rows.u8.2 rfl) rfl h_b2 (by decide) (by decide) ?_)
       intro A180 c180 w180 H
       replace H:=H.drop 0 rfl
       refine Sk hst [9,10] [0,1,2,3,5,4,6,7,8,9,10] [(0,.pointer (some ⟨g0,0,none⟩)),(2,.pointer (some (ad6.add ((IntKind.i64.wrap ((r_.f_l.length:Int) - 1)).toNat * 11)))),(3,.int .i64 (n_:Int)),(57,.slice A180 b2.length c180),(59,.pointer (some ((ad6.add ((IntKind.i64.wrap ((r_.f_l.length:Int) - 1)).toNat * 11)).add 7)))] ?_
       refine Sd (i:=11) (H.has.sub hsub178) (stHole none 25 1 ((IntKind.i64.wrap ((r_.f_l.length:Int) - 1)).toNat) 7 A0_3 c0_3 r_.f_l 44 [.string ⟨x_.Path.toArray⟩,.int .i64 x_.Kind,.int .i64 x_.Mode,.int .i64 x_.Uid,.int .i64 x_.Gid,.int .i64 x_.Time,.int .i64 x_.Size,.slice A_3_141 Data.length c_4_141,.string ⟨x_.Target.toArray⟩,.int .i64 x_.Dev,.slice A115_10 x_.Attrs.length c115_10] (.slice A180 b2.length c180) ad6 H rfl ea6 (by kernel_rfl) (by kernel_rfl) rfl (of_decide_eq_true rfl) ?_)
       intro w181 H
       replace H:St w F m mk178 [holeO oApiEntry 44 A0_3 c0_3 r_.f_l ((IntKind.i64.wrap ((r_.f_l.length:Int) - 1)).toNat) [.string ⟨x_.Path.toArray⟩,.int .i64 x_.Kind,.int .i64 x_.Mode,.int .i64 x_.Uid,.int .i64 x_.Gid,.int .i64 x_.Time,.int .i64 x_.Size,.slice A180 b2.length c180,.string ⟨x_.Target.toArray⟩,.int .i64 x_.Dev,.slice A115_10 x_.Attrs.length c115_10],blkI g0 [.slice A178_o0_0 pair1.2.f_text.f_b.length c178_o0_0,.int .i64 pair1.2.f_text.f_at,.int .i64 pair1.2.f_text.f_e,.slice A0_3 r_.f_l.length c0_3,.bool pair1.2.f_full,.bool pair1.2.f_more] 56,rowI rU8 5 A180 c180 b2,rowI rApiAttr 46 A115_10 c115_10 x_.Attrs] w181:=H
       refine Ed (H.has.sub hsub178) ?_
       refine Sg 6 [.le 1,.bl 0,.le 0,.co [1,1,1,1,1]] [(0,.pointer (some ⟨g0,0,none⟩)),(2,.pointer (some (ad6.add ((IntKind.i64.wrap ((r_.f_l.length:Int) - 1)).toNat * 11)))),(3,.int .i64 (IntKind.i64.wrap ((n_:Int)+1)))] ?_
       rw [show IntKind.i64.wrap ((n_:Int)+1)=((n_:Int)+1) from w64 (by omega)]
       refine Lq (nk140,pair1.2.f_text.f_b,pair1.2.f_text.f_at,pair1.2.f_text.f_e,b2,pair1.2.f_full,pair1.2.f_more,(n_+1),A178_o0_0,c178_o0_0,A180,c180,mk178) (Nat.lt_succ_self _) ⟨hnx140 _ (Option.some.inj hb_140).symm,((((H.pull 3 rfl).pull 3 rfl).pull 2 rfl).pull 3 rfl),((hsub141.trans hsub167).trans hsub178),hs178_0⟩
      ·replace H:St w F m mk167 [blkI g0 [.slice A_1_141 b.length c_2_141,.int .i64 at_,.int .i64 e_,.slice A0_3 r_.f_l.length c0_3,.bool full,.bool more] 56,holeO oApiEntry 44 A0_3 c0_3 r_.f_l ((IntKind.i64.wrap ((r_.f_l.length:Int) - 1)).toNat) [.string ⟨x_.Path.toArray⟩,.int .i64 x_.Kind,.int .i64 x_.Mode,.int .i64 x_.Uid,.int .i64 x_.Gid,.int .i64 x_.Time,.int .i64 x_.Size,.slice A_3_141 Data.length c_4_141,.string ⟨x_.Target.toArray⟩,.int .i64 x_.Dev,.slice A115_10 x_.Attrs.length c115_10],rowI rU8 5 A_3_141 c_4_141 Data,rowI rApiAttr 46 A115_10 c115_10 x_.Attrs] w175:=H
       obtain ⟨F182,hse182,hFn182,hcl182⟩:=St.call [blkI g0 [.slice A_1_141 b.length c_2_141,.int .i64 at_,.int .i64 e_,.slice A0_3 r_.f_l.length c0_3,.bool full,.bool more] 56] H
       refine (Cl (some 55) 38 #[.pointer (some ⟨g0,0,none⟩)] Tryd.call38 (manifest_reader_pair_c H.has g0 ({ f_text:=({ f_b:=b,f_at:=at_,f_e:=e_ }:TManifestText),f_l:=r_.f_l,f_full:=full,f_more:=more }:TManifestReader) A_1_141 c_2_141 (hs141_0.mono hsub167) A0_3 c0_3 hse182 hFn182 h_pair1) ?_)
       rintro _ w182 ⟨A182_o0_0,c182_o0_0,mk182,rfl,hS182,hs182_0⟩
       have hsub182:=hS182.sub
       replace H:=hcl182 _ _ _ hS182
       refine allD2 [4,7] (by kernel_rfl) (H.has.sub hsub182) ⟨?_,?_,trivial⟩
       ·have hc184:=H.holeCell 1 rfl ea6 (by decide)
        refine (Lr (some 53) 25 ((ad6.add ((IntKind.i64.wrap ((r_.f_l.length:Int) - 1)).toNat * 11)).add 7) (.slice A_3_141 Data.length c_4_141) (hc184 7 _ rfl) ?_)
        refine Sd (i:=7) (H.has.sub hsub182) (Nw (some 56) (fun g => .slice (some ⟨g,0,none⟩) 1 1) [.int .u8 (pair1.1.toNat:Int)] 5 H ?_)
        intro g185 w185 H
        refine Sd (i:=8) (H.has.sub hsub182) (appS (r:=rU8) (some 57) 25 5 1 (.int .u8 0) 25 3 A_3_141 (some ⟨g185,0,none⟩) c_4_141 1 1 Data [pair1.1] b2 _ H rfl ⟨Tryd.underlying25,by kernel_rfl⟩ rfl (by decide) (by kernel_rfl) (Cs.of_blk (H.blk 0 rfl)) (Rows.u8.2 rfl) rfl h_b2 (by decide) (by decide) ?_)
        intro A186 c186 w186 H
        replace H:=H.drop 0 rfl
        refine Sk hst [9,10] [0,1,2,3,5,6,4,7,8,9,10] [(0,.pointer (some ⟨g0,0,none⟩)),(2,.pointer (some (ad6.add ((IntKind.i64.wrap ((r_.f_l.length:Int) - 1)).toNat * 11)))),(3,.int .i64 (n_:Int)),(57,.slice A186 b2.length c186),(59,.pointer (some ((ad6.add ((IntKind.i64.wrap ((r_.f_l.length:Int) - 1)).toNat * 11)).add 7)))] ?_
        refine Sd (i:=11) (H.has.sub hsub182) (stHole none 25 1 ((IntKind.i64.wrap ((r_.f_l.length:Int) - 1)).toNat) 7 A0_3 c0_3 r_.f_l 44 [.string ⟨x_.Path.toArray⟩,.int .i64 x_.Kind,.int .i64 x_.Mode,.int .i64 x_.Uid,.int .i64 x_.Gid,.int .i64 x_.Time,.int .i64 x_.Size,.slice A_3_141 Data.length c_4_141,.string ⟨x_.Target.toArray⟩,.int .i64 x_.Dev,.slice A115_10 x_.Attrs.length c115_10] (.slice A186 b2.length c186) ad6 H rfl ea6 (by kernel_rfl) (by kernel_rfl) rfl (of_decide_eq_true rfl) ?_)
        intro w187 H
        replace H:St w F m mk182 [holeO oApiEntry 44 A0_3 c0_3 r_.f_l ((IntKind.i64.wrap ((r_.f_l.length:Int) - 1)).toNat) [.string ⟨x_.Path.toArray⟩,.int .i64 x_.Kind,.int .i64 x_.Mode,.int .i64 x_.Uid,.int .i64 x_.Gid,.int .i64 x_.Time,.int .i64 x_.Size,.slice A186 b2.length c186,.string ⟨x_.Target.toArray⟩,.int .i64 x_.Dev,.slice A115_10 x_.Attrs.length c115_10],blkI g0 [.slice A182_o0_0 pair1.2.f_text.f_b.length c182_o0_0,.int .i64 pair1.2.f_text.f_at,.int .i64 pair1.2.f_text.f_e,.slice A0_3 r_.f_l.length c0_3,.bool pair1.2.f_full,.bool pair1.2.f_more] 56,rowI rU8 5 A186 c186 b2,rowI rApiAttr 46 A115_10 c115_10 x_.Attrs] w187:=H
        refine Ed (H.has.sub hsub182) ?_
        refine Sg 6 [.le 1,.bl 0,.le 0,.co [1,1,1,1,1]] [(0,.pointer (some ⟨g0,0,none⟩)),(2,.pointer (some (ad6.add ((IntKind.i64.wrap ((r_.f_l.length:Int) - 1)).toNat * 11)))),(3,.int .i64 (IntKind.i64.wrap ((n_:Int)+1)))] ?_
        rw [show IntKind.i64.wrap ((n_:Int)+1)=((n_:Int)+1) from w64 (by omega)]
        refine Lq (nk140,pair1.2.f_text.f_b,pair1.2.f_text.f_at,pair1.2.f_text.f_e,b2,pair1.2.f_full,pair1.2.f_more,(n_+1),A182_o0_0,c182_o0_0,A186,c186,mk182) (Nat.lt_succ_self _) ⟨hnx140 _ (Option.some.inj hb_140).symm,((((H.pull 3 rfl).pull 3 rfl).pull 2 rfl).pull 3 rfl),((hsub141.trans hsub167).trans hsub182),hs182_0⟩
       ·replace H:St w F m mk182 [blkI g0 [.slice A182_o0_0 pair1.2.f_text.f_b.length c182_o0_0,.int .i64 pair1.2.f_text.f_at,.int .i64 pair1.2.f_text.f_e,.slice A0_3 r_.f_l.length c0_3,.bool pair1.2.f_full,.bool pair1.2.f_more] 56,holeO oApiEntry 44 A0_3 c0_3 r_.f_l ((IntKind.i64.wrap ((r_.f_l.length:Int) - 1)).toNat) [.string ⟨x_.Path.toArray⟩,.int .i64 x_.Kind,.int .i64 x_.Mode,.int .i64 x_.Uid,.int .i64 x_.Gid,.int .i64 x_.Time,.int .i64 x_.Size,.slice A_3_141 Data.length c_4_141,.string ⟨x_.Target.toArray⟩,.int .i64 x_.Dev,.slice A115_10 x_.Attrs.length c115_10],rowI rU8 5 A_3_141 c_4_141 Data,rowI rApiAttr 46 A115_10 c115_10 x_.Attrs] w182:=H
        refine (Nw (some 56) (fun g => .slice (some ⟨g,0,none⟩) 1 1) [.int .u8 (pair1.1.toNat:Int)] 5 H ?_)
        intro g188 w188 H
        have hc189:=H.holeCell 2 rfl ea6 (by decide)
        refine Sd (i:=4) (H.has.sub hsub182) (Lr (some 53) 25 ((ad6.add ((IntKind.i64.wrap ((r_.f_l.length:Int) - 1)).toNat * 11)).add 7) (.slice A_3_141 Data.length c_4_141) (hc189 7 _ rfl) ?_)
        refine Sd (i:=8) (H.has.sub hsub182) (appS (r:=rU8) (some 57) 25 5 1 (.int .u8 0) 25 3 A_3_141 (some ⟨g188,0,none⟩) c_4_141 1 1 Data [pair1.1] b2 _ H rfl ⟨Tryd.underlying25,by kernel_rfl⟩ rfl (by decide) (by kernel_rfl) (Cs.of_blk (H.blk 0 rfl)) (Rows.u8.2 rfl) rfl h_b2 (by decide) (by decide) ?_)
        intro A190 c190 w190 H
        replace H:=H.drop 0 rfl
        refine Sk hst [9,10] [0,1,2,3,5,6,7,4,8,9,10] [(0,.pointer (some ⟨g0,0,none⟩)),(2,.pointer (some (ad6.add ((IntKind.i64.wrap ((r_.f_l.length:Int) - 1)).toNat * 11)))),(3,.int .i64 (n_:Int)),(57,.slice A190 b2.length c190),(59,.pointer (some ((ad6.add ((IntKind.i64.wrap ((r_.f_l.length:Int) - 1)).toNat * 11)).add 7)))] ?_
        refine Sd (i:=11) (H.has.sub hsub182) (stHole none 25 1 ((IntKind.i64.wrap ((r_.f_l.length:Int) - 1)).toNat) 7 A0_3 c0_3 r_.f_l 44 [.string ⟨x_.Path.toArray⟩,.int .i64 x_.Kind,.int .i64 x_.Mode,.int .i64 x_.Uid,.int .i64 x_.Gid,.int .i64 x_.Time,.int .i64 x_.Size,.slice A_3_141 Data.length c_4_141,.string ⟨x_.Target.toArray⟩,.int .i64 x_.Dev,.slice A115_10 x_.Attrs.length c115_10] (.slice A190 b2.length c190) ad6 H rfl ea6 (by kernel_rfl) (by kernel_rfl) rfl (of_decide_eq_true rfl) ?_)
        intro w191 H
        replace H:St w F m mk182 [holeO oApiEntry 44 A0_3 c0_3 r_.f_l ((IntKind.i64.wrap ((r_.f_l.length:Int) - 1)).toNat) [.string ⟨x_.Path.toArray⟩,.int .i64 x_.Kind,.int .i64 x_.Mode,.int .i64 x_.Uid,.int .i64 x_.Gid,.int .i64 x_.Time,.int .i64 x_.Size,.slice A190 b2.length c190,.string ⟨x_.Target.toArray⟩,.int .i64 x_.Dev,.slice A115_10 x_.Attrs.length c115_10],blkI g0 [.slice A182_o0_0 pair1.2.f_text.f_b.length c182_o0_0,.int .i64 pair1.2.f_text.f_at,.int .i64 pair1.2.f_text.f_e,.slice A0_3 r_.f_l.length c0_3,.bool pair1.2.f_full,.bool pair1.2.f_more] 56,rowI rU8 5 A190 c190 b2,rowI rApiAttr 46 A115_10 c115_10 x_.Attrs] w191:=H
        refine Ed (H.has.sub hsub182) ?_
        refine Sg 6 [.le 1,.bl 0,.le 0,.co [1,1,1,1,1]] [(0,.pointer (some ⟨g0,0,none⟩)),(2,.pointer (some (ad6.add ((IntKind.i64.wrap ((r_.f_l.length:Int) - 1)).toNat * 11)))),(3,.int .i64 (IntKind.i64.wrap ((n_:Int)+1)))] ?_
        rw [show IntKind.i64.wrap ((n_:Int)+1)=((n_:Int)+1) from w64 (by omega)]
        refine Lq (nk140,pair1.2.f_text.f_b,pair1.2.f_text.f_at,pair1.2.f_text.f_e,b2,pair1.2.f_full,pair1.2.f_more,(n_+1),A182_o0_0,c182_o0_0,A190,c190,mk182) (Nat.lt_succ_self _) ⟨hnx140 _ (Option.some.inj hb_140).symm,((((H.pull 3 rfl).pull 3 rfl).pull 2 rfl).pull 3 rfl),((hsub141.trans hsub167).trans hsub182),hs182_0⟩
     ·rw [hb169]
      refine Sg 2 [.le 0,.co [1,1,1,1,1]] [(0,.pointer (some ⟨g0,0,none⟩)),(3,.int .i64 (n_:Int))] ?_
      refine leR_up (k':=[]) (by rfl) ?_
      refine Lj (b,at_,e_,x_.Path,Data,x_.Target,x_.Attrs,full,more,n_,A_1_141,c_2_141,A_3_141,c_4_141,A115_10,c115_10,mk167) ⟨(hfin140 _ (Option.some.inj hb_140).symm).symm,H,(hsub141.trans hsub167),(hs141_0.mono hsub167),hl115_0,hl115_8⟩
    ·rw [hb168]
     refine Sg 10 [.le 0,.co [1,1,1,1,1]] [(0,.pointer (some ⟨g0,0,none⟩)),(3,.int .i64 (n_:Int))] ?_
     refine leR_up (k':=[]) (by rfl) ?_
     refine Lj (b,at_,e_,x_.Path,Data,x_.Target,x_.Attrs,full,more,n_,A_1_141,c_2_141,A_3_141,c_4_141,A115_10,c115_10,mk167) ⟨(hfin140 _ (Option.some.inj hb_140).symm).symm,H,(hsub141.trans hsub167),(hs141_0.mono hsub167),hl115_0,hl115_8⟩
  ·rw [hb142]
   have p142:=of_decide_eq_false hb142
   refine Sg 21 [.le 0,.co [1,1,1,1,1]] [(0,.pointer (some ⟨g0,0,none⟩)),(3,.int .i64 (n_:Int))] ?_
   refine leR_up (k':=[]) (by rfl) ?_
   refine Lj (b,at_,e_,x_.Path,Data,x_.Target,x_.Attrs,full,more,n_,A_1_141,c_2_141,A_3_141,c_4_141,A115_10,c115_10,mm141) ⟨(hfin140 _ (Option.some.inj hb_140).symm).symm,H,hsub141,hs141_0,hl115_0,hl115_8⟩
 rintro ⟨b,at_,e_,Path,Data,Target,Attrs,full,more,n_,A_1_114,c_2_114,A_3_114,c_4_114,A_5_114,c_6_114,mm114⟩ wj113 ⟨hy113,H,hsub114,hs114_0,hl114_0,hl114_1⟩
 try dsimp only at hy113
 try dsimp only at H
 try dsimp only at hsub114
 try dsimp only at hs114_0
 try dsimp only at hl114_0
 try dsimp only at hl114_1
 rw [hy113] at hf
 try dsimp only at hf
 refine Sg 5 [.op [1,1,1,1,1,0] 3,.co [1,1,1,1,1,1]] [(0,.pointer (some ⟨g0,0,none⟩)),(3,.int .i64 (n_:Int)),(64,.pointer (some ⟨g0,0,none⟩))] ?_
 obtain ⟨want1,h_want1,hf⟩:=bindE hf
 obtain ⟨F192,hse192,hFn192,hcl192⟩:=St.call [blkI g0 [.slice A_1_114 b.length c_2_114,.int .i64 at_,.int .i64 e_,.slice A0_3 r_.f_l.length c0_3,.bool full,.bool more] 56] H
 refine st (Cl (some 65) 50 #[.pointer (some ⟨g0,0,none⟩),.int .u8 10] Tryd.call50 (manifest_text_want_c H.has g0 ({ f_text:=({ f_b:=b,f_at:=at_,f_e:=e_ }:TManifestText),f_l:=r_.f_l,f_full:=full,f_more:=more }:TManifestReader) A_1_114 c_2_114 hs114_0 A0_3 c0_3 (10:UInt8) hse192 hFn192 h_want1) ?_)
 rintro _ w192 ⟨A192_o0_0,c192_o0_0,mk192,rfl,hS192,hs192_0⟩
 have hsub192:=hS192.sub
 replace H:=hcl192 _ _ _ hS192
 refine Sg 7 [.op [1,1,1,1,1,1] 5] [(68,.bool ((n_:Int) == 32)),(70,.pointer (some ⟨g0,4,none⟩))] ?_
 replace H:St w F m mk192 [blkI g0 [.slice A192_o0_0 want1.f_text.f_b.length c192_o0_0,.int .i64 want1.f_text.f_at,.int .i64 want1.f_text.f_e,.slice A0_3 r_.f_l.length c0_3,.bool want1.f_full,.bool want1.f_more] 56,holeO oApiEntry 44 A0_3 c0_3 r_.f_l ((IntKind.i64.wrap ((r_.f_l.length:Int) - 1)).toNat) [.string ⟨Path.toArray⟩,.int .i64 x_.Kind,.int .i64 x_.Mode,.int .i64 x_.Uid,.int .i64 x_.Gid,.int .i64 x_.Time,.int .i64 x_.Size,.slice A_3_114 Data.length c_4_114,.string ⟨Target.toArray⟩,.int .i64 x_.Dev,.slice A_5_114 Attrs.length c_6_114],rowI rU8 5 A_3_114 c_4_114 Data,rowI rApiAttr 46 A_5_114 c_6_114 Attrs] w192:=H
 refine st (Ss none 4 0 g0 4 (.bool ((n_:Int) == 32)) H rfl rfl (of_decide_eq_true rfl) ?_)
 intro w193 H
 refine Sg 1 [] [] ?_
 replace H:St w F m mk192 [rowI rU8 5 A_3_114 c_4_114 Data,rowI rApiAttr 46 A_5_114 c_6_114 Attrs,holeO oApiEntry 44 A0_3 c0_3 r_.f_l ((IntKind.i64.wrap ((r_.f_l.length:Int) - 1)).toNat) [.string ⟨Path.toArray⟩,.int .i64 x_.Kind,.int .i64 x_.Mode,.int .i64 x_.Uid,.int .i64 x_.Gid,.int .i64 x_.Time,.int .i64 x_.Size,.slice A_3_114 Data.length c_4_114,.string ⟨Target.toArray⟩,.int .i64 x_.Dev,.slice A_5_114 Attrs.length c_6_114],blkI g0 [.slice A192_o0_0 want1.f_text.f_b.length c192_o0_0,.int .i64 want1.f_text.f_at,.int .i64 want1.f_text.f_e,.slice A0_3 r_.f_l.length c0_3,.bool ((n_:Int) == 32),.bool want1.f_more] 56] w193:=(((H.pull 1 rfl).pull 3 rfl).pull 3 rfl)
 obtain ⟨l_,h_l_,hf⟩:=ltE hf
 replace H:=St.closeO (oApiEntry_close (x:=({ Path:=Path,Kind:=x_.Kind,Mode:=x_.Mode,Uid:=x_.Uid,Gid:=x_.Gid,Time:=x_.Time,Size:=x_.Size,Data:=Data,Target:=Target,Dev:=x_.Dev,Attrs:=Attrs }:TApiEntry)) ⟨hl114_0,hl114_1⟩ H)
 rw [h_l_] at H
 have hn_l_:r_.f_l.length=l_.length:=by rw [← h_l_,List.length_set]
 try rw [hn_l_] at H
 try rw [hn_l_]
 replace H:St w F m mk192 [rowO oApiEntry 44 A0_3 c0_3 l_,blkI g0 [.slice A192_o0_0 want1.f_text.f_b.length c192_o0_0,.int .i64 want1.f_text.f_at,.int .i64 want1.f_text.f_e,.slice A0_3 l_.length c0_3,.bool ((n_:Int) == 32),.bool want1.f_more] 56] w193:=H
 refine Er [] [] ?_
 obtain rfl:({ f_text:=want1.f_text,f_l:=l_,f_full:=((n_:Int) == 32),f_more:=want1.f_more }:TManifestReader)=r:=(Option.some.inj hf)
 exact ⟨_,rfl,A192_o0_0,c192_o0_0,A0_3,c0_3,mk192,rfl,(H.pull 1 rfl),hs192_0⟩
end Go.Proofs.YtebbaokcgnjfiaaDoor.F
