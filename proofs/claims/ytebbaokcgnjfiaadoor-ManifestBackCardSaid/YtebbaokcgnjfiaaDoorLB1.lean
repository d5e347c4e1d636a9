import Derived.Test.YtebbaokcgnjfiaaDoorProg
import Derived.Test.YtebbaokcgnjfiaaDoorLBP
set_option linter.unusedVariables false
set_option linter.unusedSimpArgs false
namespace Go.Proofs.YtebbaokcgnjfiaaDoor.F
open Go Go.RowKit Go.Proofs.YtebbaokcgnjfiaaDoor Go.Proofs.YtebbaokcgnjfiaaDoor.K
set_option maxRecDepth 100000
theorem ref11_Much_c {m:Mem} {w:World} (hm:Has m w) (l_:(List TApiEntry)) (A0_0:Option Addr) (c0_0:Nat) (s0_0:SlI rApiEntry m A0_0 c0_0 l_) {r:Bool} (hf:ref11_Much l_=some r) :
  Calls Tryd.prog 6 #[.slice A0_0 l_.length c0_0] w fun e w' => ∃ v,e=.returned v ∧ v=.bool r ∧ Ex w w':=by
 unfold ref11_Much at hf
 have H:=St.start0 hm
 refine Fc Tryd.func6 ?_
 refine Sg 11 [.co [1,0,1],.co [1,1]] [(0,.slice A0_0 l_.length c0_0),(8,.bool (decide ((l_.length:Int) > 40)))] ?_
 rcases condT hf with ⟨hb2,hf⟩ | ⟨hb2,hf⟩
 ·rw [hb2]
  have p2:=of_decide_eq_true hb2
  refine Sg 5 [.co [1,0,1,0,1],.co [1,1]] [(2,.bool true)] ?_
  refine Rr [2] [.bool true] ?_
  have hret:=(Option.some.inj hf)
  subst hret
  exact ⟨_,rfl,rfl,H.scalar⟩
 ·rw [hb2]
  have p2:=of_decide_eq_false hb2
  refine Sg 11 [.co [1,1,1,0,1],.co [1,1,1,1]] [(0,.slice A0_0 l_.length c0_0),(3,.int .i64 0),(4,.int .i64 0)] ?_
  obtain ⟨y328,hp328,hfl328,hfr328⟩:=bndE hf
  refine joinR 0 (fun (x:Unit) => []) (fun (x:Unit) (wj328:World) => y328=.inl () ∧ St w noF m m [] wj328) (by kernel_rfl) ?_ ?_
  ·refine Sg 1 [.co [1,1,1,0,1,0],.bl 0,.le 0,.co [1,1,1,1]] [(0,.slice A0_0 l_.length c0_0),(3,.int .i64 0),(4,.int .i64 0)] ?_
   obtain ⟨nn397,hR397⟩:=loopO_iff.1 hp328
   refine Lp 1 (fun (x:Nat × Int × Nat) => [(0,.slice A0_0 l_.length c0_0),(3,.int .i64 x.2.1),(4,.int .i64 (x.2.2:Int))]) (fun (x:Nat × Int × Nat) (wl397:World) => iter (fun s => ref11_Much_l1 l_ s.1 s.2) x.1 (x.2.1,x.2.2)=some y328 ∧ St w noF m m [] wl397) (fun (x:Nat × Int × Nat) => x.1) (nn397,0,0) ?_ ?_
   ·exact ⟨hR397,H⟩
   rintro ⟨n397,sum,i⟩ wl397 ⟨hR397,H⟩
   try dsimp only at hR397
   try dsimp only at H
   obtain ⟨nk397,q397,rfl,hb_397,hnx397,hfin397⟩:=iterE hR397
   replace hb_397:ref11_Much_l1 l_ sum i=some q397:=hb_397
   unfold ref11_Much_l1 at hb_397
   refine Sg 8 [.co [1,1,1,0,1,0,0,0,1],.co [1,1,1,0,1,0,0,1],.le 1,.bl 0,.le 0,.co [1,1,1,1]] [(0,.slice A0_0 l_.length c0_0),(3,.int .i64 sum),(4,.int .i64 (i:Int)),(12,.bool (decide ((i:Int) < (l_.length:Int))))] ?_
   rcases condT hb_397 with ⟨hb399,hb_397⟩ | ⟨hb399,hb_397⟩
   ·rw [hb399]
    have p399:=of_decide_eq_true hb399
    refine Sg 9 [.op [1,1,1,0,1,0,0,1,0,0,0,0] 2,.co [1,1,1,0,1,0,0,1,0,0,0,1],.co [1,1,1,0,1,0,0,1,0,0,1],.bl 1,.co [1,1,1,0,1,0,0,1,1],.le 1,.bl 0,.le 0,.co [1,1,1,1]] [(0,.slice A0_0 l_.length c0_0),(3,.int .i64 sum),(4,.int .i64 (i:Int)),(15,.slice A0_0 l_.length c0_0),(16,.int .i64 (i:Int))] ?_
    obtain ⟨x_,h_x_,hb_397⟩:=bindE hb_397
    obtain ⟨ad401,_,ea401,⟨A401_7,c401_7,A401_10,c401_10,rfl,hl401_0,hs401_7,hl401_8,hs401_10⟩,hc401⟩:=s0_0.at_ h_x_ (by decide)
    refine st (Ix (some 17) 22 44 11 A0_0 ad401 l_.length c0_0 .i64 (i:Int) ea401 (by omega) (by have:=(List.getElem?_eq_some_iff.1 h_x_).1; omega) ?_)
    refine Sg 1 [.op [1,1,1,0,1,0,0,1,0,0,0,0] 4,.co [1,1,1,0,1,0,0,1,0,0,0,1],.co [1,1,1,0,1,0,0,1,0,0,1],.bl 1,.co [1,1,1,0,1,0,0,1,1],.le 1,.bl 0,.le 0,.co [1,1,1,1]] [(0,.slice A0_0 l_.length c0_0),(3,.int .i64 sum),(4,.int .i64 (i:Int)),(18,.pointer (some ((ad401.add (i * 11)).add 7)))] ?_
    refine st (Lr (some 19) 25 ((ad401.add (i * 11)).add 7) (.slice A401_7 x_.Data.length c401_7) (H.cellI (hc401 7 _ rfl)) ?_)
    refine Sg 3 [.op [1,1,1,0,1,0,0,1,0,0,0,0] 8,.co [1,1,1,0,1,0,0,1,0,0,0,1],.co [1,1,1,0,1,0,0,1,0,0,1],.bl 1,.co [1,1,1,0,1,0,0,1,1],.le 1,.bl 0,.le 0,.co [1,1,1,1]] [(0,.slice A0_0 l_.length c0_0),(3,.int .i64 sum),(4,.int .i64 (i:Int)),(22,.bool (decide ((x_.Data.length:Int) > 70000)))] ?_
    rcases condT hb_397 with ⟨hb402,hb_397⟩ | ⟨hb402,hb_397⟩
    ·rw [hb402]
     have p402:=of_decide_eq_true hb402
     refine Sg 32 [.co [1,1,1,0,1,0,0,1,0,0,0,1,0,1],.co [1,1,1,0,1,0,0,1,0,0,1],.bl 1,.co [1,1,1,0,1,0,0,1,1],.le 1,.bl 0,.le 0,.co [1,1,1,1]] [(2,.bool true)] ?_
     refine Rr [2] [.bool true] ?_
     have hret:=(hfr328 _ (hfin397 _ (Option.some.inj hb_397).symm).symm)
     subst hret
     exact ⟨_,rfl,rfl,H.scalar⟩
    ·rw [hb402]
     have p402:=of_decide_eq_false hb402
     refine Sg 2 [.op [1,1,1,0,1,0,0,1,0,0,0,0] 10,.co [1,1,1,0,1,0,0,1,0,0,0,1],.co [1,1,1,0,1,0,0,1,0,0,1],.bl 1,.co [1,1,1,0,1,0,0,1,1],.le 1,.bl 0,.le 0,.co [1,1,1,1]] [(0,.slice A0_0 l_.length c0_0),(3,.int .i64 sum),(4,.int .i64 (i:Int)),(22,.bool false),(23,.slice A0_0 l_.length c0_0),(24,.int .i64 (i:Int))] ?_
     refine st (Ix (some 25) 22 44 11 A0_0 ad401 l_.length c0_0 .i64 (i:Int) ea401 (by omega) (by have:=(List.getElem?_eq_some_iff.1 h_x_).1; omega) ?_)
     refine Sg 1 [.op [1,1,1,0,1,0,0,1,0,0,0,0] 12,.co [1,1,1,0,1,0,0,1,0,0,0,1],.co [1,1,1,0,1,0,0,1,0,0,1],.bl 1,.co [1,1,1,0,1,0,0,1,1],.le 1,.bl 0,.le 0,.co [1,1,1,1]] [(0,.slice A0_0 l_.length c0_0),(3,.int .i64 sum),(4,.int .i64 (i:Int)),(22,.bool false),(26,.pointer (some (ad401.add (i * 11))))] ?_
     refine st (Lr (some 27) 9 (ad401.add (i * 11)) (.string ⟨x_.Path.toArray⟩) (H.cellI (mc0 (hc401 0 _ rfl))) ?_)
     refine Sg 4 [.op [1,1,1,0,1,0,0,1,0,0,0,0] 17,.co [1,1,1,0,1,0,0,1,0,0,0,1],.co [1,1,1,0,1,0,0,1,0,0,1],.bl 1,.co [1,1,1,0,1,0,0,1,1],.le 1,.bl 0,.le 0,.co [1,1,1,1]] [(0,.slice A0_0 l_.length c0_0),(3,.int .i64 sum),(4,.int .i64 (i:Int)),(31,.bool (decide ((x_.Path.length:Int) > 5000)))] ?_
     rcases condT hb_397 with ⟨hb403,hb_397⟩ | ⟨hb403,hb_397⟩
     ·rw [hb403]
      have p403:=of_decide_eq_true hb403
      refine Sg 23 [.co [1,1,1,0,1,0,0,1,0,0,0,1,0,1],.co [1,1,1,0,1,0,0,1,0,0,1],.bl 1,.co [1,1,1,0,1,0,0,1,1],.le 1,.bl 0,.le 0,.co [1,1,1,1]] [(2,.bool true)] ?_
      refine Rr [2] [.bool true] ?_
      have hret:=(hfr328 _ (hfin397 _ (Option.some.inj hb_397).symm).symm)
      subst hret
      exact ⟨_,rfl,rfl,H.scalar⟩
     ·rw [hb403]
      have p403:=of_decide_eq_false hb403
      refine Sg 2 [.op [1,1,1,0,1,0,0,1,0,0,0,0] 19,.co [1,1,1,0,1,0,0,1,0,0,0,1],.co [1,1,1,0,1,0,0,1,0,0,1],.bl 1,.co [1,1,1,0,1,0,0,1,1],.le 1,.bl 0,.le 0,.co [1,1,1,1]] [(0,.slice A0_0 l_.length c0_0),(3,.int .i64 sum),(4,.int .i64 (i:Int)),(31,.bool false),(32,.slice A0_0 l_.length c0_0),(33,.int .i64 (i:Int))] ?_
      refine st (Ix (some 34) 22 44 11 A0_0 ad401 l_.length c0_0 .i64 (i:Int) ea401 (by omega) (by have:=(List.getElem?_eq_some_iff.1 h_x_).1; omega) ?_)
      refine Sg 1 [.op [1,1,1,0,1,0,0,1,0,0,0,0] 21,.co [1,1,1,0,1,0,0,1,0,0,0,1],.co [1,1,1,0,1,0,0,1,0,0,1],.bl 1,.co [1,1,1,0,1,0,0,1,1],.le 1,.bl 0,.le 0,.co [1,1,1,1]] [(0,.slice A0_0 l_.length c0_0),(3,.int .i64 sum),(4,.int .i64 (i:Int)),(31,.bool false),(35,.pointer (some ((ad401.add (i * 11)).add 8)))] ?_
      refine st (Lr (some 36) 9 ((ad401.add (i * 11)).add 8) (.string ⟨x_.Target.toArray⟩) (H.cellI (hc401 8 _ rfl)) ?_)
      refine Sg 4 [.op [1,1,1,0,1,0,0,1,0,0,0,0] 26,.co [1,1,1,0,1,0,0,1,0,0,0,1],.co [1,1,1,0,1,0,0,1,0,0,1],.bl 1,.co [1,1,1,0,1,0,0,1,1],.le 1,.bl 0,.le 0,.co [1,1,1,1]] [(0,.slice A0_0 l_.length c0_0),(3,.int .i64 sum),(4,.int .i64 (i:Int)),(40,.bool (decide ((x_.Target.length:Int) > 5000)))] ?_
      rcases condT hb_397 with ⟨hb404,hb_397⟩ | ⟨hb404,hb_397⟩
      ·rw [hb404]
       have p404:=of_decide_eq_true hb404
       refine Sg 14 [.co [1,1,1,0,1,0,0,1,0,0,0,1,0,1],.co [1,1,1,0,1,0,0,1,0,0,1],.bl 1,.co [1,1,1,0,1,0,0,1,1],.le 1,.bl 0,.le 0,.co [1,1,1,1]] [(2,.bool true)] ?_
       refine Rr [2] [.bool true] ?_
       have hret:=(hfr328 _ (hfin397 _ (Option.some.inj hb_397).symm).symm)
       subst hret
       exact ⟨_,rfl,rfl,H.scalar⟩
      ·rw [hb404]
       have p404:=of_decide_eq_false hb404
       refine Sg 2 [.op [1,1,1,0,1,0,0,1,0,0,0,0] 28,.co [1,1,1,0,1,0,0,1,0,0,0,1],.co [1,1,1,0,1,0,0,1,0,0,1],.bl 1,.co [1,1,1,0,1,0,0,1,1],.le 1,.bl 0,.le 0,.co [1,1,1,1]] [(0,.slice A0_0 l_.length c0_0),(3,.int .i64 sum),(4,.int .i64 (i:Int)),(40,.bool false),(41,.slice A0_0 l_.length c0_0),(42,.int .i64 (i:Int))] ?_
       refine st (Ix (some 43) 22 44 11 A0_0 ad401 l_.length c0_0 .i64 (i:Int) ea401 (by omega) (by have:=(List.getElem?_eq_some_iff.1 h_x_).1; omega) ?_)
       refine Sg 1 [.op [1,1,1,0,1,0,0,1,0,0,0,0] 30,.co [1,1,1,0,1,0,0,1,0,0,0,1],.co [1,1,1,0,1,0,0,1,0,0,1],.bl 1,.co [1,1,1,0,1,0,0,1,1],.le 1,.bl 0,.le 0,.co [1,1,1,1]] [(0,.slice A0_0 l_.length c0_0),(3,.int .i64 sum),(4,.int .i64 (i:Int)),(40,.bool false),(44,.pointer (some ((ad401.add (i * 11)).add 10)))] ?_
       refine st (Lr (some 45) 42 ((ad401.add (i * 11)).add 10) (.slice A401_10 x_.Attrs.length c401_10) (H.cellI (hc401 10 _ rfl)) ?_)
       refine Sg 4 [.co [1,1,1,0,1,0,0,1,0,0,0,1],.co [1,1,1,0,1,0,0,1,0,0,1],.bl 1,.co [1,1,1,0,1,0,0,1,1],.le 1,.bl 0,.le 0,.co [1,1,1,1]] [(0,.slice A0_0 l_.length c0_0),(3,.int .i64 sum),(4,.int .i64 (i:Int)),(48,.bool (decide ((x_.Attrs.length:Int) > 70)))] ?_
       rcases condT hb_397 with ⟨hb405,hb_397⟩ | ⟨hb405,hb_397⟩
       ·rw [hb405]
        have p405:=of_decide_eq_true hb405
        refine Sg 5 [.co [1,1,1,0,1,0,0,1,0,0,0,1,0,1],.co [1,1,1,0,1,0,0,1,0,0,1],.bl 1,.co [1,1,1,0,1,0,0,1,1],.le 1,.bl 0,.le 0,.co [1,1,1,1]] [(2,.bool true)] ?_
        refine Rr [2] [.bool true] ?_
        have hret:=(hfr328 _ (hfin397 _ (Option.some.inj hb_397).symm).symm)
        subst hret
        exact ⟨_,rfl,rfl,H.scalar⟩
       ·rw [hb405]
        have p405:=of_decide_eq_false hb405
        refine Sg 6 [.co [1,1,1,0,1,0,0,1,0,0,1,1],.bl 1,.co [1,1,1,0,1,0,0,1,1],.le 1,.bl 0,.le 0,.co [1,1,1,1]] [(0,.slice A0_0 l_.length c0_0),(3,.int .i64 sum),(4,.int .i64 (i:Int)),(5,.int .i64 0)] ?_
        obtain ⟨y427,hp427,hfl427,hfr427⟩:=bndE hb_397
        refine joinR 2 (fun (x:Int) => [(0,.slice A0_0 l_.length c0_0),(3,.int .i64 x),(4,.int .i64 (i:Int))]) (fun (x:Int) (wj427:World) => y427=.inl x ∧ St w noF m m [] wj427) (by kernel_rfl) ?_ ?_
        ·refine Sg 1 [.co [1,1,1,0,1,0,0,1,0,0,1,1,0],.bl 2,.le 2,.bl 1,.co [1,1,1,0,1,0,0,1,1],.le 1,.bl 0,.le 0,.co [1,1,1,1]] [(0,.slice A0_0 l_.length c0_0),(3,.int .i64 sum),(4,.int .i64 (i:Int)),(5,.int .i64 0)] ?_
         obtain ⟨nn443,hR443⟩:=loopO_iff.1 hp427
         refine Lp 3 (fun (x:Nat × Int × Nat) => [(0,.slice A0_0 l_.length c0_0),(3,.int .i64 x.2.1),(4,.int .i64 (i:Int)),(5,.int .i64 (x.2.2:Int))]) (fun (x:Nat × Int × Nat) (wl443:World) => iter (fun s => ref11_Much_l2 x_ s.1 s.2) x.1 (x.2.1,x.2.2)=some y427 ∧ St w noF m m [] wl443) (fun (x:Nat × Int × Nat) => x.1) (nn443,sum,0) ?_ ?_
         ·exact ⟨hR443,H⟩
         rintro ⟨n443,sum1,k⟩ wl443 ⟨hR443,H⟩
         try dsimp only at hR443
         try dsimp only at H
         obtain ⟨nk443,q443,rfl,hb_443,hnx443,hfin443⟩:=iterE hR443
         replace hb_443:ref11_Much_l2 x_ sum1 k=some q443:=hb_443
         unfold ref11_Much_l2 at hb_443
         refine Sg 6 [.op [1,1,1,0,1,0,0,1,0,0,1,1,0,0,0,0] 3,.co [1,1,1,0,1,0,0,1,0,0,1,1,0,0,0,1],.co [1,1,1,0,1,0,0,1,0,0,1,1,0,0,1],.le 3,.bl 2,.le 2,.bl 1,.co [1,1,1,0,1,0,0,1,1],.le 1,.bl 0,.le 0,.co [1,1,1,1]] [(0,.slice A0_0 l_.length c0_0),(3,.int .i64 sum1),(4,.int .i64 (i:Int)),(5,.int .i64 (k:Int)),(49,.int .i64 (k:Int)),(50,.slice A0_0 l_.length c0_0),(51,.int .i64 (i:Int))] ?_
         refine st (Ix (some 52) 22 44 11 A0_0 ad401 l_.length c0_0 .i64 (i:Int) ea401 (by omega) (by have:=(List.getElem?_eq_some_iff.1 h_x_).1; omega) ?_)
         refine Sg 1 [.op [1,1,1,0,1,0,0,1,0,0,1,1,0,0,0,0] 5,.co [1,1,1,0,1,0,0,1,0,0,1,1,0,0,0,1],.co [1,1,1,0,1,0,0,1,0,0,1,1,0,0,1],.le 3,.bl 2,.le 2,.bl 1,.co [1,1,1,0,1,0,0,1,1],.le 1,.bl 0,.le 0,.co [1,1,1,1]] [(0,.slice A0_0 l_.length c0_0),(3,.int .i64 sum1),(4,.int .i64 (i:Int)),(5,.int .i64 (k:Int)),(49,.int .i64 (k:Int)),(53,.pointer (some ((ad401.add (i * 11)).add 10)))] ?_
         refine st (Lr (some 54) 42 ((ad401.add (i * 11)).add 10) (.slice A401_10 x_.Attrs.length c401_10) (H.cellI (hc401 10 _ rfl)) ?_)
         refine Sg 3 [.co [1,1,1,0,1,0,0,1,0,0,1,1,0,0,0,1],.co [1,1,1,0,1,0,0,1,0,0,1,1,0,0,1],.le 3,.bl 2,.le 2,.bl 1,.co [1,1,1,0,1,0,0,1,1],.le 1,.bl 0,.le 0,.co [1,1,1,1]] [(0,.slice A0_0 l_.length c0_0),(3,.int .i64 sum1),(4,.int .i64 (i:Int)),(5,.int .i64 (k:Int)),(56,.bool (decide ((k:Int) < (x_.Attrs.length:Int))))] ?_
         rcases condT hb_443 with ⟨hb445,hb_443⟩ | ⟨hb445,hb_443⟩
         ·rw [hb445]
          have p445:=of_decide_eq_true hb445
          refine Sg 5 [.co [1,1,1,0,1,0,0,1,0,0,1,1,0,0,1,0,0,0],.co [1,1,1,0,1,0,0,1,0,0,1,1,0,0,1,0,0,1],.bl 3,.co [1,1,1,0,1,0,0,1,0,0,1,1,0,0,1,1],.le 3,.bl 2,.le 2,.bl 1,.co [1,1,1,0,1,0,0,1,1],.le 1,.bl 0,.le 0,.co [1,1,1,1]] [(0,.slice A0_0 l_.length c0_0),(3,.int .i64 sum1),(4,.int .i64 (i:Int)),(5,.int .i64 (k:Int))] ?_
          obtain ⟨x_1,h_x_1,hb_443⟩:=bindE hb_443
          have hst:statB (bodyOf Tryd.f6) [1,1,1,0,1,0,0,1,0,0,1,1,0,0,1,0,0,0]=true:=by kernel_rfl
          refine Dw (Has m) H ?_
          intro w448 H
          refine Sk hst [0,1,2,6,12,13,17] [0,1,2,6,12,13,17] [(0,.slice A0_0 l_.length c0_0),(4,.int .i64 (i:Int)),(5,.int .i64 (k:Int)),(59,.int .i64 sum1),(60,.slice A0_0 l_.length c0_0),(61,.int .i64 (i:Int)),(65,.int .i64 (k:Int)),(71,.slice A0_0 l_.length c0_0),(72,.int .i64 (i:Int)),(76,.int .i64 (k:Int))] ?_
          refine Tk (i:=3) (d:=(some 62)) (s:=vS (Instr.indexAt 22 (.slice A0_0 l_.length c0_0) (.int .i64 (i:Int)))) (v:=.pointer (some (ad401.add (i * 11)))) hst (fun w' hw' => idx_run 22 44 11 _ ad401 _ _ _ _ _ ea401 (by kernel_rfl) (by omega) (by have:=(List.getElem?_eq_some_iff.1 h_x_).1; omega) rfl) ?_
          refine Sk hst [4] [0,1,2,6,12,13,17,3,4] [(0,.slice A0_0 l_.length c0_0),(4,.int .i64 (i:Int)),(5,.int .i64 (k:Int)),(59,.int .i64 sum1),(63,.pointer (some ((ad401.add (i * 11)).add 10))),(65,.int .i64 (k:Int)),(71,.slice A0_0 l_.length c0_0),(72,.int .i64 (i:Int)),(76,.int .i64 (k:Int))] ?_
          refine Tk (i:=5) (d:=(some 64)) (s:=vS (Instr.loadAt 42 (.pointer (some ((ad401.add (i * 11)).add 10))))) (v:=(.slice A401_10 x_.Attrs.length c401_10)) hst (fun w' hw' => ld_run _ _ _ (by kernel_rfl) (hw'.cell (hc401 10 _ rfl))) ?_
          obtain ⟨ad449,_,ea449,⟨A449_1,c449_1,rfl,hl449_0,hs449_1⟩,hc449⟩:=hs401_10.at_ h_x_1 (by decide)
          refine Tk (i:=7) (d:=(some 66)) (s:=vS (Instr.indexAt 42 (.slice A401_10 x_.Attrs.length c401_10) (.int .i64 (k:Int)))) (v:=.pointer (some (ad449.add (k * 2)))) hst (fun w' hw' => idx_run 42 46 2 _ ad449 _ _ _ _ _ ea449 (by kernel_rfl) (by omega) (by have:=(List.getElem?_eq_some_iff.1 h_x_1).1; omega) rfl) ?_
          refine Sk hst [8] [0,1,2,6,12,13,17,3,4,5,7,8] [(0,.slice A0_0 l_.length c0_0),(4,.int .i64 (i:Int)),(5,.int .i64 (k:Int)),(59,.int .i64 sum1),(67,.pointer (some (ad449.add (k * 2)))),(71,.slice A0_0 l_.length c0_0),(72,.int .i64 (i:Int)),(76,.int .i64 (k:Int))] ?_
          refine Tk (i:=9) (d:=(some 68)) (s:=vS (Instr.loadAt 9 (.pointer (some (ad449.add (k * 2)))))) (v:=(.string ⟨x_1.Name.toArray⟩)) hst (fun w' hw' => ld_run _ _ _ (by kernel_rfl) (hw'.cell (mc0 (hc449 0 _ rfl)))) ?_
          refine Sk hst [10,11] [0,1,2,6,12,13,17,3,4,5,7,8,9,10,11] [(0,.slice A0_0 l_.length c0_0),(4,.int .i64 (i:Int)),(5,.int .i64 (k:Int)),(70,.int .i64 (IntKind.i64.wrap (sum1+(x_1.Name.length:Int)))),(71,.slice A0_0 l_.length c0_0),(72,.int .i64 (i:Int)),(76,.int .i64 (k:Int))] ?_
          refine Sd (i:=14) H.has (Ix (some 73) 22 44 11 A0_0 ad401 l_.length c0_0 .i64 (i:Int) ea401 (by omega) (by have:=(List.getElem?_eq_some_iff.1 h_x_).1; omega) ?_)
          refine Sk hst [15] [0,1,2,6,12,13,17,3,4,5,7,8,9,10,11,14,15] [(0,.slice A0_0 l_.length c0_0),(4,.int .i64 (i:Int)),(5,.int .i64 (k:Int)),(70,.int .i64 (IntKind.i64.wrap (sum1+(x_1.Name.length:Int)))),(74,.pointer (some ((ad401.add (i * 11)).add 10))),(76,.int .i64 (k:Int))] ?_
          refine Sd (i:=16) H.has (Lr (some 75) 42 ((ad401.add (i * 11)).add 10) (.slice A401_10 x_.Attrs.length c401_10) (H.cellI (hc401 10 _ rfl)) ?_)
          refine Sd (i:=18) H.has (Ix (some 77) 42 46 2 A401_10 ad449 x_.Attrs.length c401_10 .i64 (k:Int) ea449 (by omega) (by have:=(List.getElem?_eq_some_iff.1 h_x_1).1; omega) ?_)
          refine Sk hst [19] [0,1,2,6,12,13,17,3,4,5,7,8,9,10,11,14,15,16,18,19] [(0,.slice A0_0 l_.length c0_0),(4,.int .i64 (i:Int)),(5,.int .i64 (k:Int)),(70,.int .i64 (IntKind.i64.wrap (sum1+(x_1.Name.length:Int)))),(78,.pointer (some ((ad449.add (k * 2)).add 1)))] ?_
          refine Sd (i:=20) H.has (Lr (some 79) 25 ((ad449.add (k * 2)).add 1) (.slice A449_1 x_1.Value.length c449_1) (H.cellI (hc449 1 _ rfl)) ?_)
          refine Sk hst [21,22] [0,1,2,6,12,13,17,3,4,5,7,8,9,10,11,14,15,16,18,19,20,21,22] [(0,.slice A0_0 l_.length c0_0),(4,.int .i64 (i:Int)),(5,.int .i64 (k:Int)),(81,.int .i64 (IntKind.i64.wrap ((IntKind.i64.wrap (sum1+(x_1.Name.length:Int)))+(x_1.Value.length:Int))))] ?_
          refine Sk hst [23] [0,1,2,6,12,13,17,3,4,5,7,8,9,10,11,14,15,16,18,19,20,21,22,23] [(0,.slice A0_0 l_.length c0_0),(3,.int .i64 (IntKind.i64.wrap ((IntKind.i64.wrap (sum1+(x_1.Name.length:Int)))+(x_1.Value.length:Int)))),(4,.int .i64 (i:Int)),(5,.int .i64 (k:Int))] ?_
          refine Ed H.has ?_
          refine Sg 4 [.op [1,1,1,0,1,0,0,1,0,0,1,1,0,0,1,0,0,1,0] 2,.co [1,1,1,0,1,0,0,1,0,0,1,1,0,0,1,0,0,1,1],.bl 3,.co [1,1,1,0,1,0,0,1,0,0,1,1,0,0,1,1],.le 3,.bl 2,.le 2,.bl 1,.co [1,1,1,0,1,0,0,1,1],.le 1,.bl 0,.le 0,.co [1,1,1,1]] [(0,.slice A0_0 l_.length c0_0),(3,.int .i64 (IntKind.i64.wrap ((IntKind.i64.wrap (sum1+(x_1.Name.length:Int)))+(x_1.Value.length:Int)))),(4,.int .i64 (i:Int)),(5,.int .i64 (k:Int)),(82,.slice A0_0 l_.length c0_0),(83,.int .i64 (i:Int))] ?_
          refine st (Ix (some 84) 22 44 11 A0_0 ad401 l_.length c0_0 .i64 (i:Int) ea401 (by omega) (by have:=(List.getElem?_eq_some_iff.1 h_x_).1; omega) ?_)
          refine Sg 1 [.op [1,1,1,0,1,0,0,1,0,0,1,1,0,0,1,0,0,1,0] 4,.co [1,1,1,0,1,0,0,1,0,0,1,1,0,0,1,0,0,1,1],.bl 3,.co [1,1,1,0,1,0,0,1,0,0,1,1,0,0,1,1],.le 3,.bl 2,.le 2,.bl 1,.co [1,1,1,0,1,0,0,1,1],.le 1,.bl 0,.le 0,.co [1,1,1,1]] [(0,.slice A0_0 l_.length c0_0),(3,.int .i64 (IntKind.i64.wrap ((IntKind.i64.wrap (sum1+(x_1.Name.length:Int)))+(x_1.Value.length:Int)))),(4,.int .i64 (i:Int)),(5,.int .i64 (k:Int)),(85,.pointer (some ((ad401.add (i * 11)).add 10)))] ?_
          refine st (Lr (some 86) 42 ((ad401.add (i * 11)).add 10) (.slice A401_10 x_.Attrs.length c401_10) (H.cellI (hc401 10 _ rfl)) ?_)
          refine Sg 1 [.op [1,1,1,0,1,0,0,1,0,0,1,1,0,0,1,0,0,1,0] 6,.co [1,1,1,0,1,0,0,1,0,0,1,1,0,0,1,0,0,1,1],.bl 3,.co [1,1,1,0,1,0,0,1,0,0,1,1,0,0,1,1],.le 3,.bl 2,.le 2,.bl 1,.co [1,1,1,0,1,0,0,1,1],.le 1,.bl 0,.le 0,.co [1,1,1,1]] [(0,.slice A0_0 l_.length c0_0),(3,.int .i64 (IntKind.i64.wrap ((IntKind.i64.wrap (sum1+(x_1.Name.length:Int)))+(x_1.Value.length:Int)))),(4,.int .i64 (i:Int)),(5,.int .i64 (k:Int)),(86,.slice A401_10 x_.Attrs.length c401_10),(87,.int .i64 (k:Int))] ?_
          refine st (Ix (some 88) 42 46 2 A401_10 ad449 x_.Attrs.length c401_10 .i64 (k:Int) ea449 (by omega) (by have:=(List.getElem?_eq_some_iff.1 h_x_1).1; omega) ?_)
          refine Sg 1 [.op [1,1,1,0,1,0,0,1,0,0,1,1,0,0,1,0,0,1,0] 8,.co [1,1,1,0,1,0,0,1,0,0,1,1,0,0,1,0,0,1,1],.bl 3,.co [1,1,1,0,1,0,0,1,0,0,1,1,0,0,1,1],.le 3,.bl 2,.le 2,.bl 1,.co [1,1,1,0,1,0,0,1,1],.le 1,.bl 0,.le 0,.co [1,1,1,1]] [(0,.slice A0_0 l_.length c0_0),(3,.int .i64 (IntKind.i64.wrap ((IntKind.i64.wrap (sum1+(x_1.Name.length:Int)))+(x_1.Value.length:Int)))),(4,.int .i64 (i:Int)),(5,.int .i64 (k:Int)),(89,.pointer (some (ad449.add (k * 2))))] ?_
          refine st (Lr (some 90) 9 (ad449.add (k * 2)) (.string ⟨x_1.Name.toArray⟩) (H.cellI (mc0 (hc449 0 _ rfl))) ?_)
          refine Sg 3 [.op [1,1,1,0,1,0,0,1,0,0,1,1,0,0,1,0,0,1,0] 12,.co [1,1,1,0,1,0,0,1,0,0,1,1,0,0,1,0,0,1,1],.bl 3,.co [1,1,1,0,1,0,0,1,0,0,1,1,0,0,1,1],.le 3,.bl 2,.le 2,.bl 1,.co [1,1,1,0,1,0,0,1,1],.le 1,.bl 0,.le 0,.co [1,1,1,1]] [(0,.slice A0_0 l_.length c0_0),(3,.int .i64 (IntKind.i64.wrap ((IntKind.i64.wrap (sum1+(x_1.Name.length:Int)))+(x_1.Value.length:Int)))),(4,.int .i64 (i:Int)),(5,.int .i64 (k:Int)),(93,.bool (decide ((x_1.Name.length:Int) > 300)))] ?_
          rcases condT hb_443 with ⟨hb450,hb_443⟩ | ⟨hb450,hb_443⟩
          ·rw [hb450]
           have p450:=of_decide_eq_true hb450
           refine Sg 22 [.co [1,1,1,0,1,0,0,1,0,0,1,1,0,0,1,0,0,1,1,0,1],.bl 3,.co [1,1,1,0,1,0,0,1,0,0,1,1,0,0,1,1],.le 3,.bl 2,.le 2,.bl 1,.co [1,1,1,0,1,0,0,1,1],.le 1,.bl 0,.le 0,.co [1,1,1,1]] [(2,.bool true)] ?_
           refine Rr [2] [.bool true] ?_
           have hret:=(hfr328 _ (hfin397 _ (hfr427 _ (hfin443 _ (Option.some.inj hb_443).symm).symm).symm).symm)
           subst hret
           exact ⟨_,rfl,rfl,H.scalar⟩
          ·rw [hb450]
           have p450:=of_decide_eq_false hb450
           refine Sg 2 [.op [1,1,1,0,1,0,0,1,0,0,1,1,0,0,1,0,0,1,0] 14,.co [1,1,1,0,1,0,0,1,0,0,1,1,0,0,1,0,0,1,1],.bl 3,.co [1,1,1,0,1,0,0,1,0,0,1,1,0,0,1,1],.le 3,.bl 2,.le 2,.bl 1,.co [1,1,1,0,1,0,0,1,1],.le 1,.bl 0,.le 0,.co [1,1,1,1]] [(0,.slice A0_0 l_.length c0_0),(3,.int .i64 (IntKind.i64.wrap ((IntKind.i64.wrap (sum1+(x_1.Name.length:Int)))+(x_1.Value.length:Int)))),(4,.int .i64 (i:Int)),(5,.int .i64 (k:Int)),(93,.bool false),(94,.slice A0_0 l_.length c0_0),(95,.int .i64 (i:Int))] ?_
           refine st (Ix (some 96) 22 44 11 A0_0 ad401 l_.length c0_0 .i64 (i:Int) ea401 (by omega) (by have:=(List.getElem?_eq_some_iff.1 h_x_).1; omega) ?_)
           refine Sg 1 [.op [1,1,1,0,1,0,0,1,0,0,1,1,0,0,1,0,0,1,0] 16,.co [1,1,1,0,1,0,0,1,0,0,1,1,0,0,1,0,0,1,1],.bl 3,.co [1,1,1,0,1,0,0,1,0,0,1,1,0,0,1,1],.le 3,.bl 2,.le 2,.bl 1,.co [1,1,1,0,1,0,0,1,1],.le 1,.bl 0,.le 0,.co [1,1,1,1]] [(0,.slice A0_0 l_.length c0_0),(3,.int .i64 (IntKind.i64.wrap ((IntKind.i64.wrap (sum1+(x_1.Name.length:Int)))+(x_1.Value.length:Int)))),(4,.int .i64 (i:Int)),(5,.int .i64 (k:Int)),(93,.bool false),(97,.pointer (some ((ad401.add (i * 11)).add 10)))] ?_
           refine st (Lr (some 98) 42 ((ad401.add (i * 11)).add 10) (.slice A401_10 x_.Attrs.length c401_10) (H.cellI (hc401 10 _ rfl)) ?_)
           refine Sg 1 [.op [1,1,1,0,1,0,0,1,0,0,1,1,0,0,1,0,0,1,0] 18,.co [1,1,1,0,1,0,0,1,0,0,1,1,0,0,1,0,0,1,1],.bl 3,.co [1,1,1,0,1,0,0,1,0,0,1,1,0,0,1,1],.le 3,.bl 2,.le 2,.bl 1,.co [1,1,1,0,1,0,0,1,1],.le 1,.bl 0,.le 0,.co [1,1,1,1]] [(0,.slice A0_0 l_.length c0_0),(3,.int .i64 (IntKind.i64.wrap ((IntKind.i64.wrap (sum1+(x_1.Name.length:Int)))+(x_1.Value.length:Int)))),(4,.int .i64 (i:Int)),(5,.int .i64 (k:Int)),(93,.bool false),(98,.slice A401_10 x_.Attrs.length c401_10),(99,.int .i64 (k:Int))] ?_
           refine st (Ix (some 100) 42 46 2 A401_10 ad449 x_.Attrs.length c401_10 .i64 (k:Int) ea449 (by omega) (by have:=(List.getElem?_eq_some_iff.1 h_x_1).1; omega) ?_)
           refine Sg 1 [.op [1,1,1,0,1,0,0,1,0,0,1,1,0,0,1,0,0,1,0] 20,.co [1,1,1,0,1,0,0,1,0,0,1,1,0,0,1,0,0,1,1],.bl 3,.co [1,1,1,0,1,0,0,1,0,0,1,1,0,0,1,1],.le 3,.bl 2,.le 2,.bl 1,.co [1,1,1,0,1,0,0,1,1],.le 1,.bl 0,.le 0,.co [1,1,1,1]] [(0,.slice A0_0 l_.length c0_0),(3,.int .i64 (IntKind.i64.wrap ((IntKind.i64.wrap (sum1+(x_1.Name.length:Int)))+(x_1.Value.length:Int)))),(4,.int .i64 (i:Int)),(5,.int .i64 (k:Int)),(93,.bool false),(101,.pointer (some ((ad449.add (k * 2)).add 1)))] ?_
           refine st (Lr (some 102) 25 ((ad449.add (k * 2)).add 1) (.slice A449_1 x_1.Value.length c449_1) (H.cellI (hc449 1 _ rfl)) ?_)
           refine Sg 4 [.op [1,1,1,0,1,0,0,1,0,0,1,1,0,0,1,0,0,1,0] 25,.co [1,1,1,0,1,0,0,1,0,0,1,1,0,0,1,0,0,1,1],.bl 3,.co [1,1,1,0,1,0,0,1,0,0,1,1,0,0,1,1],.le 3,.bl 2,.le 2,.bl 1,.co [1,1,1,0,1,0,0,1,1],.le 1,.bl 0,.le 0,.co [1,1,1,1]] [(0,.slice A0_0 l_.length c0_0),(3,.int .i64 (IntKind.i64.wrap ((IntKind.i64.wrap (sum1+(x_1.Name.length:Int)))+(x_1.Value.length:Int)))),(4,.int .i64 (i:Int)),(5,.int .i64 (k:Int)),(106,.bool (decide ((x_1.Value.length:Int) > 5000)))] ?_
           rcases condT hb_443 with ⟨hb451,hb_443⟩ | ⟨hb451,hb_443⟩
           ·rw [hb451]
            have p451:=of_decide_eq_true hb451
            refine Sg 9 [.co [1,1,1,0,1,0,0,1,0,0,1,1,0,0,1,0,0,1,1,0,1],.bl 3,.co [1,1,1,0,1,0,0,1,0,0,1,1,0,0,1,1],.le 3,.bl 2,.le 2,.bl 1,.co [1,1,1,0,1,0,0,1,1],.le 1,.bl 0,.le 0,.co [1,1,1,1]] [(2,.bool true)] ?_
            refine Rr [2] [.bool true] ?_
            have hret:=(hfr328 _ (hfin397 _ (hfr427 _ (hfin443 _ (Option.some.inj hb_443).symm).symm).symm).symm)
            subst hret
            exact ⟨_,rfl,rfl,H.scalar⟩
           ·rw [hb451]
            have p451:=of_decide_eq_false hb451
            refine Sg 4 [.co [1,1,1,0,1,0,0,1,0,0,1,1,0,0,1,0,0,1,1],.bl 3,.co [1,1,1,0,1,0,0,1,0,0,1,1,0,0,1,1],.le 3,.bl 2,.le 2,.bl 1,.co [1,1,1,0,1,0,0,1,1],.le 1,.bl 0,.le 0,.co [1,1,1,1]] [(0,.slice A0_0 l_.length c0_0),(3,.int .i64 (IntKind.i64.wrap ((IntKind.i64.wrap (sum1+(x_1.Name.length:Int)))+(x_1.Value.length:Int)))),(4,.int .i64 (i:Int)),(5,.int .i64 (k:Int)),(109,.bool (decide ((IntKind.i64.wrap ((IntKind.i64.wrap (sum1+(x_1.Name.length:Int)))+(x_1.Value.length:Int))) > 1000000)))] ?_
            rcases condT hb_443 with ⟨hb452,hb_443⟩ | ⟨hb452,hb_443⟩
            ·rw [hb452]
             have p452:=of_decide_eq_true hb452
             refine Sg 5 [.co [1,1,1,0,1,0,0,1,0,0,1,1,0,0,1,0,0,1,1,0,1],.bl 3,.co [1,1,1,0,1,0,0,1,0,0,1,1,0,0,1,1],.le 3,.bl 2,.le 2,.bl 1,.co [1,1,1,0,1,0,0,1,1],.le 1,.bl 0,.le 0,.co [1,1,1,1]] [(2,.bool true)] ?_
             refine Rr [2] [.bool true] ?_
             have hret:=(hfr328 _ (hfin397 _ (hfr427 _ (hfin443 _ (Option.some.inj hb_443).symm).symm).symm).symm)
             subst hret
             exact ⟨_,rfl,rfl,H.scalar⟩
            ·rw [hb452]
             have p452:=of_decide_eq_false hb452
             refine Sg 8 [.le 3,.bl 2,.le 2,.bl 1,.co [1,1,1,0,1,0,0,1,1],.le 1,.bl 0,.le 0,.co [1,1,1,1]] [(0,.slice A0_0 l_.length c0_0),(3,.int .i64 (IntKind.i64.wrap ((IntKind.i64.wrap (sum1+(x_1.Name.length:Int)))+(x_1.Value.length:Int)))),(4,.int .i64 (i:Int)),(5,.int .i64 (IntKind.i64.wrap ((k:Int)+1)))] ?_
             have:=hs401_10.bound
             rw [show IntKind.i64.wrap ((k:Int)+1)=((k:Int)+1) from w64 (by omega)]
             refine Lq (nk443,(IntKind.i64.wrap ((IntKind.i64.wrap (sum1+(x_1.Name.length:Int)))+(x_1.Value.length:Int))),(k+1)) (Nat.lt_succ_self _) ⟨hnx443 _ (Option.some.inj hb_443).symm,H⟩
         ·rw [hb445]
          have p445:=of_decide_eq_false hb445
          refine Sg 2 [.le 2,.bl 1,.co [1,1,1,0,1,0,0,1,1],.le 1,.bl 0,.le 0,.co [1,1,1,1]] [(0,.slice A0_0 l_.length c0_0),(3,.int .i64 sum1),(4,.int .i64 (i:Int))] ?_
          refine leR_up (k':=[]) (by rfl) ?_
          refine Lj (sum1) ⟨(hfin443 _ (Option.some.inj hb_443).symm).symm,H⟩
        rintro sum1 wj427 ⟨hy427,H⟩
        have hb_397:=hfl427 _ hy427
        refine Sg 6 [.le 1,.bl 0,.le 0,.co [1,1,1,1]] [(0,.slice A0_0 l_.length c0_0),(3,.int .i64 sum1),(4,.int .i64 (IntKind.i64.wrap ((i:Int)+1)))] ?_
        have:=s0_0.bound
        rw [show IntKind.i64.wrap ((i:Int)+1)=((i:Int)+1) from w64 (by omega)]
        refine Lq (nk397,sum1,(i+1)) (Nat.lt_succ_self _) ⟨hnx397 _ (Option.some.inj hb_397).symm,H⟩
   ·rw [hb399]
    have p399:=of_decide_eq_false hb399
    refine Sg 2 [.le 0,.co [1,1,1,1]] [] ?_
    refine leR_up (k':=[]) (by rfl) ?_
    refine Lj () ⟨(hfin397 _ (Option.some.inj hb_397).symm).symm,H⟩
  rintro _ wj328 ⟨hy328,H⟩
  have hf:=hfl328 _ hy328
  try dsimp only at hf
  refine Sg 4 [.co [1,1,1,1,1]] [(2,.bool false)] ?_
  refine Rr [2] [.bool false] ?_
  have hret:=(Option.some.inj hf)
  subst hret
  exact ⟨_,rfl,rfl,H.scalar⟩
theorem manifest_between_c {m:Mem} {w:World} (hm:Has m w) (n_:Int) (low:Int) (high:Int) :
  Calls Tryd.prog 31 #[.int .i64 n_,.int .i64 low,.int .i64 high] w fun e w' => ∃ v,e=.returned v ∧ v=.bool (manifest_between n_ low high) ∧ Ex w w':=by
 generalize hf:manifest_between n_ low high=r
 unfold manifest_between at hf
 have H:=St.start0 hm
 refine Fc Tryd.func31 ?_
 refine Sg 10 [.op [1,0] 4,.co [1,1]] [(0,.int .i64 n_),(2,.int .i64 high),(10,.bool (decide (n_ ≥ low)))] ?_
 rcases condT hf with ⟨hb2,hf⟩ | ⟨hb2,hf⟩
 ·rw [hb2]
  have p2:=of_decide_eq_true hb2
  refine Sg 6 [.co [1,1]] [(6,.bool (decide (n_ ≤ high)))] ?_
  refine Rr [6] [.bool (decide (n_ ≤ high))] ?_
  obtain rfl:(decide (n_ ≤ high))=r:=hf
  exact ⟨_,rfl,rfl,H.scalar⟩
 ·rw [hb2]
  have p2:=of_decide_eq_false hb2
  refine Sg 6 [.co [1,1]] [(6,.bool false)] ?_
  refine Rr [6] [.bool false] ?_
  have hret:=hf
  subst hret
  exact ⟨_,rfl,rfl,H.scalar⟩
theorem manifest_right_c {m:Mem} {w:World} (hm:Has m w) (x_:TApiEntry) (l0_0:x_.Path.length ≤ 9223372036854775807) (A0_7:Option Addr) (c0_7:Nat) (s0_7:SlI rU8 m A0_7 c0_7 x_.Data) (l0_8:x_.Target.length ≤ 9223372036854775807) (A0_10:Option Addr) (c0_10:Nat) (s0_10:SlI rApiAttr m A0_10 c0_10 x_.Attrs) :
  Calls Tryd.prog 17 #[.agg #[.string ⟨x_.Path.toArray⟩,.int .i64 x_.Kind,.int .i64 x_.Mode,.int .i64 x_.Uid,.int .i64 x_.Gid,.int .i64 x_.Time,.int .i64 x_.Size,.slice A0_7 x_.Data.length c0_7,.string ⟨x_.Target.toArray⟩,.int .i64 x_.Dev,.slice A0_10 x_.Attrs.length c0_10]] w fun e w' => ∃ v,e=.returned v ∧ v=.bool (manifest_right x_) ∧ Ex w w':=by
 generalize hf:manifest_right x_=r
 unfold manifest_right at hf
 have H:=St.start0 hm
 refine Fc Tryd.func17 ?_
 refine Sg 2 [.op [0] 0,.co [1]] [(0,.agg #[.string ⟨x_.Path.toArray⟩,.int .i64 x_.Kind,.int .i64 x_.Mode,.int .i64 x_.Uid,.int .i64 x_.Gid,.int .i64 x_.Time,.int .i64 x_.Size,.slice A0_7 x_.Data.length c0_7,.string ⟨x_.Target.toArray⟩,.int .i64 x_.Dev,.slice A0_10 x_.Attrs.length c0_10])] ?_
 refine st (Nw (some 1) (fun g => .pointer (some ⟨g,0,none⟩)) [.string ⟨x_.Path.toArray⟩,.int .i64 x_.Kind,.int .i64 x_.Mode,.int .i64 x_.Uid,.int .i64 x_.Gid,.int .i64 x_.Time,.int .i64 x_.Size,.slice A0_7 x_.Data.length c0_7,.string ⟨x_.Target.toArray⟩,.int .i64 x_.Dev,.slice A0_10 x_.Attrs.length c0_10] 44 H ?_)
 intro g1 w1 H
 refine Sg 6 [.op [1,0,0] 1,.co [1,0,1],.co [1,1]] [(1,.pointer (some ⟨g1,0,none⟩)),(4,.pointer (some ⟨g1,1,none⟩))] ?_
 refine st (Lr (some 5) 3 ⟨g1,1,none⟩ (.int .i64 x_.Kind) (H.cellB 0 rfl rfl) ?_)
 refine st (Cl (some 6) 31 #[.int .i64 x_.Kind,.int .i64 1,.int .i64 6] Tryd.call31 (manifest_between_c H.has x_.Kind 1 6) ?_)
 rintro _ w2 ⟨rfl,hx2⟩
 replace H:=H.ex hx2
 refine Sg 2 [.co [1,0,1],.co [1,1]] [(1,.pointer (some ⟨g1,0,none⟩)),(7,.bool (!(manifest_between x_.Kind 1 6)))] ?_
 rcases condT hf with ⟨hb4,hf⟩ | ⟨hb4,hf⟩
 ·rw [hb4]
  refine Sg 6 [.op [1,1,0,0] 1,.co [1,1,0,1],.co [1,1,1]] [(1,.pointer (some ⟨g1,0,none⟩)),(8,.pointer (some ⟨g1,1,none⟩))] ?_
  refine st (Lr (some 9) 3 ⟨g1,1,none⟩ (.int .i64 x_.Kind) (H.cellB 0 rfl rfl) ?_)
  refine Sg 2 [.co [1,1,0,1],.co [1,1,1]] [(1,.pointer (some ⟨g1,0,none⟩)),(10,.bool (x_.Kind == 6))] ?_
  rcases condT hf with ⟨hb6,hf⟩ | ⟨hb6,hf⟩
  ·rw [hb6]
   refine Sg 5 [.co [1,1,0,1,0,1],.co [1,1,1]] [(2,.bool true)] ?_
   refine Rr [2] [.bool true] ?_
   have hret:=hf
   subst hret
   exact ⟨_,rfl,rfl,H.scalar⟩
  ·rw [hb6]
   refine Sg 3 [.co [1,1,1,0],.co [1,1,1,1]] [(1,.pointer (some ⟨g1,0,none⟩))] ?_
   obtain ⟨y61,hp61,hf⟩:=ltE hf
   refine joinR 0 (fun (x:Bool) => [(1,.pointer (some ⟨g1,0,none⟩)),(3,.bool x)]) (fun (x:Bool) (wj61:World) => y61=x ∧ St w noF m m [blkI g1 [.string ⟨x_.Path.toArray⟩,.int .i64 x_.Kind,.int .i64 x_.Mode,.int .i64 x_.Uid,.int .i64 x_.Gid,.int .i64 x_.Time,.int .i64 x_.Size,.slice A0_7 x_.Data.length c0_7,.string ⟨x_.Target.toArray⟩,.int .i64 x_.Dev,.slice A0_10 x_.Attrs.length c0_10] 44] wj61) (by kernel_rfl) ?_ ?_
   ·refine Sg 2 [.op [1,1,1,0] 1,.le 0,.co [1,1,1,1]] [(1,.pointer (some ⟨g1,0,none⟩)),(11,.pointer (some ⟨g1,2,none⟩))] ?_
    refine st (Lr (some 12) 3 ⟨g1,2,none⟩ (.int .i64 x_.Mode) (H.cellB 0 rfl rfl) ?_)
    refine st (Cl (some 13) 31 #[.int .i64 x_.Mode,.int .i64 0,.int .i64 1099511627776] Tryd.call31 (manifest_between_c H.has x_.Mode 0 1099511627776) ?_)
    rintro _ w63 ⟨rfl,hx63⟩
    replace H:=H.ex hx63
    refine Sg 1 [.op [1,1,1,0] 4,.le 0,.co [1,1,1,1]] [(1,.pointer (some ⟨g1,0,none⟩)),(14,.bool (manifest_between x_.Mode 0 1099511627776))] ?_
    rcases condT hp61 with ⟨hb65,hp61⟩ | ⟨hb65,hp61⟩
    ·rw [hb65]
     refine Sg 1 [.op [1,1,1,0] 5,.le 0,.co [1,1,1,1]] [(1,.pointer (some ⟨g1,0,none⟩)),(14,.bool true),(15,.pointer (some ⟨g1,3,none⟩))] ?_
     replace H:St w noF m m [blkI g1 [.string ⟨x_.Path.toArray⟩,.int .i64 x_.Kind,.int .i64 x_.Mode,.int .i64 x_.Uid,.int .i64 x_.Gid,.int .i64 x_.Time,.int .i64 x_.Size,.slice A0_7 x_.Data.length c0_7,.string ⟨x_.Target.toArray⟩,.int .i64 x_.Dev,.slice A0_10 x_.Attrs.length c0_10] 44] w63:=H
     refine st (Lr (some 16) 3 ⟨g1,3,none⟩ (.int .i64 x_.Uid) (H.cellB 0 rfl rfl) ?_)
     refine st (Cl (some 17) 31 #[.int .i64 x_.Uid,.int .i64 0,.int .i64 1099511627776] Tryd.call31 (manifest_between_c H.has x_.Uid 0 1099511627776) ?_)
     rintro _ w66 ⟨rfl,hx66⟩
     replace H:=H.ex hx66
     refine Sg 2 [.op [1,1,1,0] 9,.le 0,.co [1,1,1,1]] [(1,.pointer (some ⟨g1,0,none⟩)),(19,.bool (manifest_between x_.Uid 0 1099511627776))] ?_
     rcases condT hp61 with ⟨hb67,hp61⟩ | ⟨hb67,hp61⟩
     ·rw [hb67]
      refine Sg 1 [.op [1,1,1,0] 10,.le 0,.co [1,1,1,1]] [(1,.pointer (some ⟨g1,0,none⟩)),(19,.bool true),(20,.pointer (some ⟨g1,4,none⟩))] ?_
      refine st (Lr (some 21) 3 ⟨g1,4,none⟩ (.int .i64 x_.Gid) (H.cellB 0 rfl rfl) ?_)
      refine st (Cl (some 22) 31 #[.int .i64 x_.Gid,.int .i64 0,.int .i64 1099511627776] Tryd.call31 (manifest_between_c H.has x_.Gid 0 1099511627776) ?_)
      rintro _ w68 ⟨rfl,hx68⟩
      replace H:=H.ex hx68
      refine Sg 2 [.op [1,1,1,0] 14,.le 0,.co [1,1,1,1]] [(1,.pointer (some ⟨g1,0,none⟩)),(24,.bool (manifest_between x_.Gid 0 1099511627776))] ?_
      rcases condT hp61 with ⟨hb69,hp61⟩ | ⟨hb69,hp61⟩
      ·rw [hb69]
       refine Sg 1 [.op [1,1,1,0] 15,.le 0,.co [1,1,1,1]] [(1,.pointer (some ⟨g1,0,none⟩)),(24,.bool true),(25,.pointer (some ⟨g1,5,none⟩))] ?_
       refine st (Lr (some 26) 3 ⟨g1,5,none⟩ (.int .i64 x_.Time) (H.cellB 0 rfl rfl) ?_)
       refine st (Cl (some 27) 31 #[.int .i64 x_.Time,.int .i64 0,.int .i64 1099511627776] Tryd.call31 (manifest_between_c H.has x_.Time 0 1099511627776) ?_)
       rintro _ w70 ⟨rfl,hx70⟩
       replace H:=H.ex hx70
       refine Sg 3 [.le 0,.co [1,1,1,1]] [(1,.pointer (some ⟨g1,0,none⟩)),(3,.bool (manifest_between x_.Time 0 1099511627776))] ?_
       refine Lj ((manifest_between x_.Time 0 1099511627776)) ⟨hp61.symm,H⟩
      ·rw [hb69]
       refine Sg 6 [.le 0,.co [1,1,1,1]] [(1,.pointer (some ⟨g1,0,none⟩)),(3,.bool false)] ?_
       refine Lj (false) ⟨hp61.symm,H⟩
     ·rw [hb67]
      refine Sg 11 [.le 0,.co [1,1,1,1]] [(1,.pointer (some ⟨g1,0,none⟩)),(3,.bool false)] ?_
      refine Lj (false) ⟨hp61.symm,H⟩
    ·rw [hb65]
     refine Sg 16 [.le 0,.co [1,1,1,1]] [(1,.pointer (some ⟨g1,0,none⟩)),(3,.bool false)] ?_
     refine Lj (false) ⟨hp61.symm,H⟩
   rintro ok wj61 ⟨hy61,H⟩
   rw [hy61] at hf
   refine Sg 4 [.op [1,1,1,1,0,0] 1,.co [1,1,1,1,0,1],.co [1,1,1,1,1]] [(1,.pointer (some ⟨g1,0,none⟩)),(3,.bool ok),(29,.pointer (some ⟨g1,1,none⟩))] ?_
   refine st (Lr (some 30) 3 ⟨g1,1,none⟩ (.int .i64 x_.Kind) (H.cellB 0 rfl rfl) ?_)
   refine Sg 7 [.co [1,1,1,1,0,1,0,1],.bl 0,.co [1,1,1,1,1]] [(1,.pointer (some ⟨g1,0,none⟩)),(3,.bool ok),(30,.int .i64 x_.Kind),(31,.bool (x_.Kind == 1))] ?_
   rcases condT hf with ⟨hb92,hf⟩ | ⟨hb92,hf⟩
   ·rw [hb92]
    refine Sg 5 [.op [1,1,1,1,0,1,0,1,0,0] 2,.co [1,1,1,1,0,1,0,1,0,1],.bl 0,.co [1,1,1,1,1]] [(1,.pointer (some ⟨g1,0,none⟩)),(34,.bool ok)] ?_
    rcases condT hf with ⟨hb93,hf⟩ | ⟨hb93,hf⟩
    ·rw [hb93]
     refine Sg 1 [.op [1,1,1,1,0,1,0,1,0,0] 3,.co [1,1,1,1,0,1,0,1,0,1],.bl 0,.co [1,1,1,1,1]] [(34,.bool true),(35,.pointer (some ⟨g1,6,none⟩))] ?_
     refine st (Lr (some 36) 3 ⟨g1,6,none⟩ (.int .i64 x_.Size) (H.cellB 0 rfl rfl) ?_)
     refine st (Cl (some 37) 31 #[.int .i64 x_.Size,.int .i64 0,.int .i64 1099511627776] Tryd.call31 (manifest_between_c H.has x_.Size 0 1099511627776) ?_)
     rintro _ w94 ⟨rfl,hx94⟩
     replace H:=H.ex hx94
     refine Sg 3 [.co [1,1,1,1,0,1,0,1,0,1],.bl 0,.co [1,1,1,1,1]] [(2,.bool (manifest_between x_.Size 0 1099511627776))] ?_
     refine Rr [2] [.bool (manifest_between x_.Size 0 1099511627776)] ?_
     obtain rfl:(manifest_between x_.Size 0 1099511627776)=r:=hf
     exact ⟨_,rfl,rfl,H.scalar⟩
    ·rw [hb93]
     refine Sg 6 [.co [1,1,1,1,0,1,0,1,0,1],.bl 0,.co [1,1,1,1,1]] [(2,.bool false)] ?_
     refine Rr [2] [.bool false] ?_
     have hret:=hf
     subst hret
     exact ⟨_,rfl,rfl,H.scalar⟩
   ·rw [hb92]
    refine Sg 7 [.co [1,1,1,1,0,1,0,1,1,0,1],.co [1,1,1,1,0,1,0,1,1,1],.bl 0,.co [1,1,1,1,1]] [(1,.pointer (some ⟨g1,0,none⟩)),(3,.bool ok),(30,.int .i64 x_.Kind),(39,.bool (x_.Kind == 4))] ?_
    rcases condT hf with ⟨hb95,hf⟩ | ⟨hb95,hf⟩
    ·rw [hb95]
     refine Sg 7 [.op [1,1,1,1,0,1,0,1,1,1,0,0] 2,.co [1,1,1,1,0,1,0,1,1,1,0,1],.bl 0,.co [1,1,1,1,1]] [(1,.pointer (some ⟨g1,0,none⟩)),(43,.bool ok)] ?_
     rcases condT hf with ⟨hb96,hf⟩ | ⟨hb96,hf⟩
     ·rw [hb96]
      refine Sg 1 [.op [1,1,1,1,0,1,0,1,1,1,0,0] 3,.co [1,1,1,1,0,1,0,1,1,1,0,1],.bl 0,.co [1,1,1,1,1]] [(43,.bool true),(44,.pointer (some ⟨g1,9,none⟩))] ?_
      refine st (Lr (some 45) 3 ⟨g1,9,none⟩ (.int .i64 x_.Dev) (H.cellB 0 rfl rfl) ?_)
      refine st (Cl (some 46) 31 #[.int .i64 x_.Dev,.int .i64 0,.int .i64 1099511627776] Tryd.call31 (manifest_between_c H.has x_.Dev 0 1099511627776) ?_)
      rintro _ w97 ⟨rfl,hx97⟩
      replace H:=H.ex hx97
      refine Sg 3 [.co [1,1,1,1,0,1,0,1,1,1,0,1],.bl 0,.co [1,1,1,1,1]] [(2,.bool (manifest_between x_.Dev 0 1099511627776))] ?_
      refine Rr [2] [.bool (manifest_between x_.Dev 0 1099511627776)] ?_
      obtain rfl:(manifest_between x_.Dev 0 1099511627776)=r:=hf
      exact ⟨_,rfl,rfl,H.scalar⟩
     ·rw [hb96]
      refine Sg 6 [.co [1,1,1,1,0,1,0,1,1,1,0,1],.bl 0,.co [1,1,1,1,1]] [(2,.bool false)] ?_
      refine Rr [2] [.bool false] ?_
      have hret:=hf
      subst hret
      exact ⟨_,rfl,rfl,H.scalar⟩
    ·rw [hb95]
     refine Sg 5 [.co [1,1,1,1,0,1,0,1,1,1],.bl 0,.co [1,1,1,1,1]] [(1,.pointer (some ⟨g1,0,none⟩)),(3,.bool ok),(39,.bool (x_.Kind == 5))] ?_
     rcases condT hf with ⟨hb98,hf⟩ | ⟨hb98,hf⟩
     ·rw [hb98]
      refine Sg 5 [.op [1,1,1,1,0,1,0,1,1,1,0,0] 2,.co [1,1,1,1,0,1,0,1,1,1,0,1],.bl 0,.co [1,1,1,1,1]] [(1,.pointer (some ⟨g1,0,none⟩)),(43,.bool ok)] ?_
      rcases condT hf with ⟨hb99,hf⟩ | ⟨hb99,hf⟩
      ·rw [hb99]
       refine Sg 1 [.op [1,1,1,1,0,1,0,1,1,1,0,0] 3,.co [1,1,1,1,0,1,0,1,1,1,0,1],.bl 0,.co [1,1,1,1,1]] [(43,.bool true),(44,.pointer (some ⟨g1,9,none⟩))] ?_
       replace H:St w noF m m [blkI g1 [.string ⟨x_.Path.toArray⟩,.int .i64 x_.Kind,.int .i64 x_.Mode,.int .i64 x_.Uid,.int .i64 x_.Gid,.int .i64 x_.Time,.int .i64 x_.Size,.slice A0_7 x_.Data.length c0_7,.string ⟨x_.Target.toArray⟩,.int .i64 x_.Dev,.slice A0_10 x_.Attrs.length c0_10] 44] wj61:=H
       refine st (Lr (some 45) 3 ⟨g1,9,none⟩ (.int .i64 x_.Dev) (H.cellB 0 rfl rfl) ?_)
       refine st (Cl (some 46) 31 #[.int .i64 x_.Dev,.int .i64 0,.int .i64 1099511627776] Tryd.call31 (manifest_between_c H.has x_.Dev 0 1099511627776) ?_)
       rintro _ w100 ⟨rfl,hx100⟩
       replace H:=H.ex hx100
       refine Sg 3 [.co [1,1,1,1,0,1,0,1,1,1,0,1],.bl 0,.co [1,1,1,1,1]] [(2,.bool (manifest_between x_.Dev 0 1099511627776))] ?_
       refine Rr [2] [.bool (manifest_between x_.Dev 0 1099511627776)] ?_
       obtain rfl:(manifest_between x_.Dev 0 1099511627776)=r:=hf
       exact ⟨_,rfl,rfl,H.scalar⟩
      ·rw [hb99]
       refine Sg 6 [.co [1,1,1,1,0,1,0,1,1,1,0,1],.bl 0,.co [1,1,1,1,1]] [(2,.bool false)] ?_
       refine Rr [2] [.bool false] ?_
       have hret:=hf
       subst hret
       exact ⟨_,rfl,rfl,H.scalar⟩
     ·rw [hb98]
      refine Sg 8 [.co [1,1,1,1,1,1]] [(2,.bool ok)] ?_
      refine Rr [2] [.bool ok] ?_
      have hret:=hf
      subst hret
      exact ⟨_,rfl,rfl,H.scalar⟩
 ·rw [hb4]
  refine Sg 5 [.co [1,0,1,0,1],.co [1,1]] [(2,.bool false)] ?_
  refine Rr [2] [.bool false] ?_
  have hret:=hf
  subst hret
  exact ⟨_,rfl,rfl,H.scalar⟩
theorem manifest_tooLong_c {m:Mem} {w:World} (hm:Has m w) (x_:TApiEntry) (l0_0:x_.Path.length ≤ 9223372036854775807) (A0_7:Option Addr) (c0_7:Nat) (s0_7:SlI rU8 m A0_7 c0_7 x_.Data) (l0_8:x_.Target.length ≤ 9223372036854775807) (A0_10:Option Addr) (c0_10:Nat) (s0_10:SlI rApiAttr m A0_10 c0_10 x_.Attrs) {r:Bool} (hf:manifest_tooLong x_=some r) :
  Calls Tryd.prog 18 #[.agg #[.string ⟨x_.Path.toArray⟩,.int .i64 x_.Kind,.int .i64 x_.Mode,.int .i64 x_.Uid,.int .i64 x_.Gid,.int .i64 x_.Time,.int .i64 x_.Size,.slice A0_7 x_.Data.length c0_7,.string ⟨x_.Target.toArray⟩,.int .i64 x_.Dev,.slice A0_10 x_.Attrs.length c0_10]] w fun e w' => ∃ v,e=.returned v ∧ v=.bool r ∧ Ex w w':=by
 unfold manifest_tooLong at hf
 have H:=St.start0 hm
 refine Fc Tryd.func18 ?_
 refine Sg 2 [.op [0] 0,.co [1]] [(0,.agg #[.string ⟨x_.Path.toArray⟩,.int .i64 x_.Kind,.int .i64 x_.Mode,.int .i64 x_.Uid,.int .i64 x_.Gid,.int .i64 x_.Time,.int .i64 x_.Size,.slice A0_7 x_.Data.length c0_7,.string ⟨x_.Target.toArray⟩,.int .i64 x_.Dev,.slice A0_10 x_.Attrs.length c0_10])] ?_
 refine st (Nw (some 1) (fun g => .pointer (some ⟨g,0,none⟩)) [.string ⟨x_.Path.toArray⟩,.int .i64 x_.Kind,.int .i64 x_.Mode,.int .i64 x_.Uid,.int .i64 x_.Gid,.int .i64 x_.Time,.int .i64 x_.Size,.slice A0_7 x_.Data.length c0_7,.string ⟨x_.Target.toArray⟩,.int .i64 x_.Dev,.slice A0_10 x_.Attrs.length c0_10] 44 H ?_)
 intro g1 w1 H
 refine Sg 6 [.op [1,0,0] 1,.co [1,0,1],.co [1,1]] [(1,.pointer (some ⟨g1,0,none⟩)),(6,.pointer (some ⟨g1,0,none⟩))] ?_
 refine st (Lr (some 7) 9 ⟨g1,0,none⟩ (.string ⟨x_.Path.toArray⟩) (H.cellB 0 rfl rfl) ?_)
 refine Sg 3 [.op [1,0,0] 5,.co [1,0,1],.co [1,1]] [(1,.pointer (some ⟨g1,0,none⟩)),(10,.bool (decide ((x_.Path.length:Int) > 1048576)))] ?_
 rcases condT hf with ⟨hb7,hf⟩ | ⟨hb7,hf⟩
 ·rw [hb7]
  have p7:=of_decide_eq_true hb7
  refine Sg 32 [.co [1,0,1,0,1],.co [1,1]] [(2,.bool true)] ?_
  refine Rr [2] [.bool true] ?_
  have hret:=(Option.some.inj hf)
  subst hret
  exact ⟨_,rfl,rfl,H.scalar⟩
 ·rw [hb7]
  have p7:=of_decide_eq_false hb7
  refine Sg 1 [.op [1,0,0] 6,.co [1,0,1],.co [1,1]] [(1,.pointer (some ⟨g1,0,none⟩)),(10,.bool false),(11,.pointer (some ⟨g1,1,none⟩))] ?_
  refine st (Lr (some 12) 3 ⟨g1,1,none⟩ (.int .i64 x_.Kind) (H.cellB 0 rfl rfl) ?_)
  refine Sg 2 [.op [1,0,0] 9,.co [1,0,1],.co [1,1]] [(1,.pointer (some ⟨g1,0,none⟩)),(10,.bool false),(14,.bool (x_.Kind == 1))] ?_
  rcases condT hf with ⟨hb9,hf⟩ | ⟨hb9,hf⟩
  ·rw [hb9]
   refine Sg 1 [.op [1,0,0] 10,.co [1,0,1],.co [1,1]] [(1,.pointer (some ⟨g1,0,none⟩)),(10,.bool false),(14,.bool true),(15,.pointer (some ⟨g1,7,none⟩))] ?_
   refine st (Lr (some 16) 25 ⟨g1,7,none⟩ (.slice A0_7 x_.Data.length c0_7) (H.cellB 0 rfl rfl) ?_)
   refine Sg 5 [.op [1,0,0] 16,.co [1,0,1],.co [1,1]] [(1,.pointer (some ⟨g1,0,none⟩)),(21,.bool (decide ((x_.Data.length:Int) > 1048576)))] ?_
   rcases condT hf with ⟨hb10,hf⟩ | ⟨hb10,hf⟩
   ·rw [hb10]
    have p10:=of_decide_eq_true hb10
    refine Sg 21 [.co [1,0,1,0,1],.co [1,1]] [(2,.bool true)] ?_
    refine Rr [2] [.bool true] ?_
    have hret:=(Option.some.inj hf)
    subst hret
    exact ⟨_,rfl,rfl,H.scalar⟩
   ·rw [hb10]
    have p10:=of_decide_eq_false hb10
    refine Sg 1 [.op [1,0,0] 17,.co [1,0,1],.co [1,1]] [(1,.pointer (some ⟨g1,0,none⟩)),(21,.bool false),(22,.pointer (some ⟨g1,1,none⟩))] ?_
    refine st (Lr (some 23) 3 ⟨g1,1,none⟩ (.int .i64 x_.Kind) (H.cellB 0 rfl rfl) ?_)
    refine Sg 2 [.op [1,0,0] 20,.co [1,0,1],.co [1,1]] [(1,.pointer (some ⟨g1,0,none⟩)),(21,.bool false),(25,.bool (x_.Kind == 3))] ?_
    rw [show (x_.Kind == 3)=false from by rw [show x_.Kind=1 from eq_of_beq hb9]; rfl]
    refine Sg 1 [.op [1,0,0] 21,.co [1,0,1],.co [1,1]] [(1,.pointer (some ⟨g1,0,none⟩)),(21,.bool false),(25,.bool false),(26,.pointer (some ⟨g1,1,none⟩))] ?_
    refine st (Lr (some 27) 3 ⟨g1,1,none⟩ (.int .i64 x_.Kind) (H.cellB 0 rfl rfl) ?_)
    refine Sg 3 [.op [1,0,0] 25,.co [1,0,1],.co [1,1]] [(1,.pointer (some ⟨g1,0,none⟩)),(21,.bool false),(30,.bool (x_.Kind == 6))] ?_
    rw [show (x_.Kind == 6)=false from by rw [show x_.Kind=1 from eq_of_beq hb9]; rfl]
    refine Sg 17 [.op [1,1,1,0,0] 1,.co [1,1,1,0,1],.co [1,1,1,1]] [(1,.pointer (some ⟨g1,0,none⟩)),(3,.int .i64 1048576),(37,.pointer (some ⟨g1,10,none⟩))] ?_
    refine st (Lr (some 38) 42 ⟨g1,10,none⟩ (.slice A0_10 x_.Attrs.length c0_10) (H.cellB 0 rfl rfl) ?_)
    refine Sg 3 [.co [1,1,1,0,1],.co [1,1,1,1]] [(1,.pointer (some ⟨g1,0,none⟩)),(3,.int .i64 1048576),(38,.slice A0_10 x_.Attrs.length c0_10),(39,.int .i64 (x_.Attrs.length:Int)),(40,.int .i64 0)] ?_
    obtain ⟨y78,hp78,hfl78,hfr78⟩:=bndE hf
    refine joinR 0 (fun (x:Unit) => []) (fun (x:Unit) (wj78:World) => y78=.inl () ∧ St w noF m m [] wj78) (by kernel_rfl) ?_ ?_
    ·refine Sg 1 [.co [1,1,1,0,1,0],.bl 0,.le 0,.co [1,1,1,1]] [(1,.pointer (some ⟨g1,0,none⟩)),(3,.int .i64 1048576),(38,.slice A0_10 x_.Attrs.length c0_10),(39,.int .i64 (x_.Attrs.length:Int)),(40,.int .i64 0)] ?_
     obtain ⟨nn96,hR96⟩:=loopO_iff.1 hp78
     refine Lp 1 (fun (x:Nat × Int × Nat) => [(1,.pointer (some ⟨g1,0,none⟩)),(3,.int .i64 x.2.1),(38,.slice A0_10 x_.Attrs.length c0_10),(39,.int .i64 (x_.Attrs.length:Int)),(40,.int .i64 (x.2.2:Int))]) (fun (x:Nat × Int × Nat) (wl96:World) => iter (fun s => manifest_tooLong_l1 x_ s.1 s.2) x.1 (x.2.1,x.2.2)=some y78 ∧ St w noF m m [blkI g1 [.string ⟨x_.Path.toArray⟩,.int .i64 x_.Kind,.int .i64 x_.Mode,.int .i64 x_.Uid,.int .i64 x_.Gid,.int .i64 x_.Time,.int .i64 x_.Size,.slice A0_7 x_.Data.length c0_7,.string ⟨x_.Target.toArray⟩,.int .i64 x_.Dev,.slice A0_10 x_.Attrs.length c0_10] 44] wl96) (fun (x:Nat × Int × Nat) => x.1) (nn96,1048576,0) ?_ ?_
     ·exact ⟨hR96,H⟩
     rintro ⟨n96,left,t⟩ wl96 ⟨hR96,H⟩
     try dsimp only at hR96
     try dsimp only at H
     obtain ⟨nk96,q96,rfl,hb_96,hnx96,hfin96⟩:=iterE hR96
     replace hb_96:manifest_tooLong_l1 x_ left t=some q96:=hb_96
     unfold manifest_tooLong_l1 at hb_96
     refine Sg 5 [.co [1,1,1,0,1,0,0,1,0],.co [1,1,1,0,1,0,0,1,1],.le 1,.bl 0,.le 0,.co [1,1,1,1]] [(1,.pointer (some ⟨g1,0,none⟩)),(3,.int .i64 left),(38,.slice A0_10 x_.Attrs.length c0_10),(39,.int .i64 (x_.Attrs.length:Int)),(40,.int .i64 (t:Int)),(41,.bool (decide ((t:Int) < (x_.Attrs.length:Int))))] ?_
     rcases condT hb_96 with ⟨hb98,hb_96⟩ | ⟨hb98,hb_96⟩
     ·rw [hb98]
      have p98:=of_decide_eq_true hb98
      refine Sg 6 [.op [1,1,1,0,1,0,0,1,1,0,0,0] 0,.co [1,1,1,0,1,0,0,1,1,0,0,1],.bl 1,.co [1,1,1,0,1,0,0,1,1,1],.le 1,.bl 0,.le 0,.co [1,1,1,1]] [(1,.pointer (some ⟨g1,0,none⟩)),(3,.int .i64 left),(38,.slice A0_10 x_.Attrs.length c0_10),(39,.int .i64 (x_.Attrs.length:Int)),(40,.int .i64 (t:Int))] ?_
      obtain ⟨x_1,h_x_1,hb_96⟩:=bindE hb_96
      obtain ⟨ad100,_,ea100,⟨A100_1,c100_1,rfl,hl100_0,hs100_1⟩,hc100⟩:=s0_10.at_ h_x_1 (by decide)
      refine st (Ix (some 42) 42 46 2 A0_10 ad100 x_.Attrs.length c0_10 .i64 (t:Int) ea100 (by omega) (by have:=(List.getElem?_eq_some_iff.1 h_x_1).1; omega) ?_)
      refine st (La (some 43) 46 (ad100.add (t * 2)) [.string ⟨x_1.Name.toArray⟩,.slice A100_1 x_1.Value.length c100_1] (fun j v hj => H.cellI (hc100 j v hj)) ?_)
      refine st (Nw (some 5) (fun g => .pointer (some ⟨g,0,none⟩)) [.string ⟨([]:List UInt8).toArray⟩,.slice none 0 0] 46 H ?_)
      intro g101 w101 H
      refine st (Sa none 46 0 g101 0 [.string ⟨x_1.Name.toArray⟩,.slice A100_1 x_1.Value.length c100_1] [.string ⟨x_1.Name.toArray⟩,.slice A100_1 x_1.Value.length c100_1] H rfl (by rfl) (of_decide_eq_true rfl) rfl ?_)
      intro w102 H
      refine Sg 5 [.op [1,1,1,0,1,0,0,1,1,0,0,1,0,0] 1,.co [1,1,1,0,1,0,0,1,1,0,0,1,0,1],.co [1,1,1,0,1,0,0,1,1,0,0,1,1],.bl 1,.co [1,1,1,0,1,0,0,1,1,1],.le 1,.bl 0,.le 0,.co [1,1,1,1]] [(1,.pointer (some ⟨g1,0,none⟩)),(3,.int .i64 left),(5,.pointer (some ⟨g101,0,none⟩)),(38,.slice A0_10 x_.Attrs.length c0_10),(39,.int .i64 (x_.Attrs.length:Int)),(40,.int .i64 (t:Int)),(44,.pointer (some ⟨g1,1,none⟩))] ?_
      refine st (Lr (some 45) 3 ⟨g1,1,none⟩ (.int .i64 x_.Kind) (H.cellB 1 rfl rfl) ?_)
      refine Sg 2 [.co [1,1,1,0,1,0,0,1,1,0,0,1,0,1],.co [1,1,1,0,1,0,0,1,1,0,0,1,1],.bl 1,.co [1,1,1,0,1,0,0,1,1,1],.le 1,.bl 0,.le 0,.co [1,1,1,1]] [(1,.pointer (some ⟨g1,0,none⟩)),(3,.int .i64 left),(5,.pointer (some ⟨g101,0,none⟩)),(38,.slice A0_10 x_.Attrs.length c0_10),(39,.int .i64 (x_.Attrs.length:Int)),(40,.int .i64 (t:Int)),(46,.bool (x_.Kind == 6))] ?_
      rw [show (x_.Kind == 6)=false from by rw [show x_.Kind=1 from eq_of_beq hb9]; rfl]
      refine Sg 6 [.op [1,1,1,0,1,0,0,1,1,0,0,1,1,0,0] 1,.co [1,1,1,0,1,0,0,1,1,0,0,1,1,0,1],.co [1,1,1,0,1,0,0,1,1,0,0,1,1,1],.bl 1,.co [1,1,1,0,1,0,0,1,1,1],.le 1,.bl 0,.le 0,.co [1,1,1,1]] [(1,.pointer (some ⟨g1,0,none⟩)),(3,.int .i64 left),(5,.pointer (some ⟨g101,0,none⟩)),(38,.slice A0_10 x_.Attrs.length c0_10),(39,.int .i64 (x_.Attrs.length:Int)),(40,.int .i64 (t:Int)),(47,.pointer (some ⟨g101,0,none⟩))] ?_
      refine st (Lr (some 48) 9 ⟨g101,0,none⟩ (.string ⟨x_1.Name.toArray⟩) (H.cellB 0 rfl rfl) ?_)
      refine Sg 4 [.op [1,1,1,0,1,0,0,1,1,0,0,1,1,0,0] 6,.co [1,1,1,0,1,0,0,1,1,0,0,1,1,0,1],.co [1,1,1,0,1,0,0,1,1,0,0,1,1,1],.bl 1,.co [1,1,1,0,1,0,0,1,1,1],.le 1,.bl 0,.le 0,.co [1,1,1,1]] [(1,.pointer (some ⟨g1,0,none⟩)),(3,.int .i64 left),(5,.pointer (some ⟨g101,0,none⟩)),(38,.slice A0_10 x_.Attrs.length c0_10),(39,.int .i64 (x_.Attrs.length:Int)),(40,.int .i64 (t:Int)),(52,.bool (decide ((x_1.Name.length:Int) > left)))] ?_
      rcases condT hb_96 with ⟨hb103,hb_96⟩ | ⟨hb103,hb_96⟩
      ·rw [hb103]
       have p103:=of_decide_eq_true hb103
       refine Sg 16 [.co [1,1,1,0,1,0,0,1,1,0,0,1,1,0,1,0,1],.co [1,1,1,0,1,0,0,1,1,0,0,1,1,1],.bl 1,.co [1,1,1,0,1,0,0,1,1,1],.le 1,.bl 0,.le 0,.co [1,1,1,1]] [(2,.bool true)] ?_
       refine Rr [2] [.bool true] ?_
       have hret:=(hfr78 _ (hfin96 _ (Option.some.inj hb_96).symm).symm)
       subst hret
       exact ⟨_,rfl,rfl,H.scalar⟩
      ·rw [hb103]
       have p103:=of_decide_eq_false hb103
       refine Sg 1 [.op [1,1,1,0,1,0,0,1,1,0,0,1,1,0,0] 7,.co [1,1,1,0,1,0,0,1,1,0,0,1,1,0,1],.co [1,1,1,0,1,0,0,1,1,0,0,1,1,1],.bl 1,.co [1,1,1,0,1,0,0,1,1,1],.le 1,.bl 0,.le 0,.co [1,1,1,1]] [(1,.pointer (some ⟨g1,0,none⟩)),(3,.int .i64 left),(5,.pointer (some ⟨g101,0,none⟩)),(38,.slice A0_10 x_.Attrs.length c0_10),(39,.int .i64 (x_.Attrs.length:Int)),(40,.int .i64 (t:Int)),(52,.bool false),(53,.pointer (some ⟨g101,1,none⟩))] ?_
       refine st (Lr (some 54) 25 ⟨g101,1,none⟩ (.slice A100_1 x_1.Value.length c100_1) (H.cellB 0 rfl rfl) ?_)
       refine Sg 3 [.op [1,1,1,0,1,0,0,1,1,0,0,1,1,0,0] 11,.co [1,1,1,0,1,0,0,1,1,0,0,1,1,0,1],.co [1,1,1,0,1,0,0,1,1,0,0,1,1,1],.bl 1,.co [1,1,1,0,1,0,0,1,1,1],.le 1,.bl 0,.le 0,.co [1,1,1,1]] [(1,.pointer (some ⟨g1,0,none⟩)),(3,.int .i64 left),(5,.pointer (some ⟨g101,0,none⟩)),(38,.slice A0_10 x_.Attrs.length c0_10),(39,.int .i64 (x_.Attrs.length:Int)),(40,.int .i64 (t:Int)),(52,.bool false),(55,.int .i64 (x_1.Value.length:Int)),(56,.int .i64 left),(57,.pointer (some ⟨g101,0,none⟩))] ?_
       refine st (Lr (some 58) 9 ⟨g101,0,none⟩ (.string ⟨x_1.Name.toArray⟩) (H.cellB 0 rfl rfl) ?_)
       refine Sg 5 [.co [1,1,1,0,1,0,0,1,1,0,0,1,1,0,1],.co [1,1,1,0,1,0,0,1,1,0,0,1,1,1],.bl 1,.co [1,1,1,0,1,0,0,1,1,1],.le 1,.bl 0,.le 0,.co [1,1,1,1]] [(1,.pointer (some ⟨g1,0,none⟩)),(3,.int .i64 left),(5,.pointer (some ⟨g101,0,none⟩)),(38,.slice A0_10 x_.Attrs.length c0_10),(39,.int .i64 (x_.Attrs.length:Int)),(40,.int .i64 (t:Int)),(62,.bool (decide ((x_1.Value.length:Int) > (IntKind.i64.wrap (left - (x_1.Name.length:Int))))))] ?_
       rcases condT hb_96 with ⟨hb104,hb_96⟩ | ⟨hb104,hb_96⟩
       ·rw [hb104]
        have p104:=of_decide_eq_true hb104
        refine Sg 5 [.co [1,1,1,0,1,0,0,1,1,0,0,1,1,0,1,0,1],.co [1,1,1,0,1,0,0,1,1,0,0,1,1,1],.bl 1,.co [1,1,1,0,1,0,0,1,1,1],.le 1,.bl 0,.le 0,.co [1,1,1,1]] [(2,.bool true)] ?_
        refine Rr [2] [.bool true] ?_
        have hret:=(hfr78 _ (hfin96 _ (Option.some.inj hb_96).symm).symm)
        subst hret
        exact ⟨_,rfl,rfl,H.scalar⟩
       ·rw [hb104]
        have p104:=of_decide_eq_false hb104
        refine Sg 5 [.op [1,1,1,0,1,0,0,1,1,0,0,1,1,1] 2,.bl 1,.co [1,1,1,0,1,0,0,1,1,1],.le 1,.bl 0,.le 0,.co [1,1,1,1]] [(1,.pointer (some ⟨g1,0,none⟩)),(5,.pointer (some ⟨g101,0,none⟩)),(38,.slice A0_10 x_.Attrs.length c0_10),(39,.int .i64 (x_.Attrs.length:Int)),(40,.int .i64 (t:Int)),(63,.int .i64 left),(64,.pointer (some ⟨g101,0,none⟩))] ?_
        refine st (Lr (some 65) 9 ⟨g101,0,none⟩ (.string ⟨x_1.Name.toArray⟩) (H.cellB 0 rfl rfl) ?_)
        refine Sg 2 [.op [1,1,1,0,1,0,0,1,1,0,0,1,1,1] 5,.bl 1,.co [1,1,1,0,1,0,0,1,1,1],.le 1,.bl 0,.le 0,.co [1,1,1,1]] [(1,.pointer (some ⟨g1,0,none⟩)),(38,.slice A0_10 x_.Attrs.length c0_10),(39,.int .i64 (x_.Attrs.length:Int)),(40,.int .i64 (t:Int)),(63,.int .i64 left),(66,.int .i64 (x_1.Name.length:Int)),(67,.pointer (some ⟨g101,1,none⟩))] ?_
        refine st (Lr (some 68) 25 ⟨g101,1,none⟩ (.slice A100_1 x_1.Value.length c100_1) (H.cellB 0 rfl rfl) ?_)
        refine Sg 10 [.le 1,.bl 0,.le 0,.co [1,1,1,1]] [(1,.pointer (some ⟨g1,0,none⟩)),(3,.int .i64 (IntKind.i64.wrap (left - (IntKind.i64.wrap ((x_1.Name.length:Int)+(x_1.Value.length:Int)))))),(38,.slice A0_10 x_.Attrs.length c0_10),(39,.int .i64 (x_.Attrs.length:Int)),(40,.int .i64 (IntKind.i64.wrap ((t:Int)+1)))] ?_
        have:=s0_10.bound
        rw [show IntKind.i64.wrap ((t:Int)+1)=((t:Int)+1) from w64 (by omega)]
        refine Lq (nk96,(IntKind.i64.wrap (left - (IntKind.i64.wrap ((x_1.Name.length:Int)+(x_1.Value.length:Int))))),(t+1)) (Nat.lt_succ_self _) ⟨hnx96 _ (Option.some.inj hb_96).symm,(St.takeN 1 (H.pull 1 rfl))⟩
     ·rw [hb98]
      have p98:=of_decide_eq_false hb98
      refine Sg 2 [.le 0,.co [1,1,1,1]] [] ?_
      refine leR_up (k':=[]) (by rfl) ?_
      refine Lj () ⟨(hfin96 _ (Option.some.inj hb_96).symm).symm,(St.takeN 0 H)⟩
    rintro _ wj78 ⟨hy78,H⟩
    have hf:=hfl78 _ hy78
    try dsimp only at hf
    refine Sg 4 [.co [1,1,1,1,1]] [(2,.bool false)] ?_
    refine Rr [2] [.bool false] ?_
    have hret:=(Option.some.inj hf)
    subst hret
    exact ⟨_,rfl,rfl,H.scalar⟩
  ·rw [hb9]
   refine Sg 8 [.op [1,0,0] 17,.co [1,0,1],.co [1,1]] [(1,.pointer (some ⟨g1,0,none⟩)),(21,.bool false),(22,.pointer (some ⟨g1,1,none⟩))] ?_
   refine st (Lr (some 23) 3 ⟨g1,1,none⟩ (.int .i64 x_.Kind) (H.cellB 0 rfl rfl) ?_)
   refine Sg 2 [.op [1,0,0] 20,.co [1,0,1],.co [1,1]] [(1,.pointer (some ⟨g1,0,none⟩)),(21,.bool false),(25,.bool (x_.Kind == 3))] ?_
   rcases condT hf with ⟨hb105,hf⟩ | ⟨hb105,hf⟩
   ·rw [hb105]
    refine Sg 6 [.op [1,0,0] 26,.co [1,0,1],.co [1,1]] [(1,.pointer (some ⟨g1,0,none⟩)),(21,.bool false),(30,.bool true),(31,.pointer (some ⟨g1,8,none⟩))] ?_
    refine st (Lr (some 32) 9 ⟨g1,8,none⟩ (.string ⟨x_.Target.toArray⟩) (H.cellB 0 rfl rfl) ?_)
    refine Sg 5 [.co [1,0,1],.co [1,1]] [(1,.pointer (some ⟨g1,0,none⟩)),(36,.bool (decide ((x_.Target.length:Int) > 1048576)))] ?_
    rcases condT hf with ⟨hb107,hf⟩ | ⟨hb107,hf⟩
    ·rw [hb107]
     have p107:=of_decide_eq_true hb107
     refine Sg 5 [.co [1,0,1,0,1],.co [1,1]] [(2,.bool true)] ?_
     refine Rr [2] [.bool true] ?_
     have hret:=(Option.some.inj hf)
     subst hret
     exact ⟨_,rfl,rfl,H.scalar⟩
    ·rw [hb107]
     have p107:=of_decide_eq_false hb107
     refine Sg 10 [.op [1,1,1,0,0] 1,.co [1,1,1,0,1],.co [1,1,1,1]] [(1,.pointer (some ⟨g1,0,none⟩)),(3,.int .i64 1048576),(37,.pointer (some ⟨g1,10,none⟩))] ?_
     refine st (Lr (some 38) 42 ⟨g1,10,none⟩ (.slice A0_10 x_.Attrs.length c0_10) (H.cellB 0 rfl rfl) ?_)
     refine Sg 3 [.co [1,1,1,0,1],.co [1,1,1,1]] [(1,.pointer (some ⟨g1,0,none⟩)),(3,.int .i64 1048576),(38,.slice A0_10 x_.Attrs.length c0_10),(39,.int .i64 (x_.Attrs.length:Int)),(40,.int .i64 0)] ?_
     obtain ⟨y147,hp147,hfl147,hfr147⟩:=bndE hf
     refine joinR 0 (fun (x:Unit) => []) (fun (x:Unit) (wj147:World) => y147=.inl () ∧ St w noF m m [] wj147) (by kernel_rfl) ?_ ?_
     ·refine Sg 1 [.co [1,1,1,0,1,0],.bl 0,.le 0,.co [1,1,1,1]] [(1,.pointer (some ⟨g1,0,none⟩)),(3,.int .i64 1048576),(38,.slice A0_10 x_.Attrs.length c0_10),(39,.int .i64 (x_.Attrs.length:Int)),(40,.int .i64 0)] ?_
      obtain ⟨nn165,hR165⟩:=loopO_iff.1 hp147
      refine Lp 1 (fun (x:Nat × Int × Nat) => [(1,.pointer (some ⟨g1,0,none⟩)),(3,.int .i64 x.2.1),(38,.slice A0_10 x_.Attrs.length c0_10),(39,.int .i64 (x_.Attrs.length:Int)),(40,.int .i64 (x.2.2:Int))]) (fun (x:Nat × Int × Nat) (wl165:World) => iter (fun s => manifest_tooLong_l2 x_ s.1 s.2) x.1 (x.2.1,x.2.2)=some y147 ∧ St w noF m m [blkI g1 [.string ⟨x_.Path.toArray⟩,.int .i64 x_.Kind,.int .i64 x_.Mode,.int .i64 x_.Uid,.int .i64 x_.Gid,.int .i64 x_.Time,.int .i64 x_.Size,.slice A0_7 x_.Data.length c0_7,.string ⟨x_.Target.toArray⟩,.int .i64 x_.Dev,.slice A0_10 x_.Attrs.length c0_10] 44] wl165) (fun (x:Nat × Int × Nat) => x.1) (nn165,1048576,0) ?_ ?_
      ·exact ⟨hR165,H⟩
      rintro ⟨n165,left1,t1⟩ wl165 ⟨hR165,H⟩
      try dsimp only at hR165
      try dsimp only at H
      obtain ⟨nk165,q165,rfl,hb_165,hnx165,hfin165⟩:=iterE hR165
      replace hb_165:manifest_tooLong_l2 x_ left1 t1=some q165:=hb_165
      unfold manifest_tooLong_l2 at hb_165
      refine Sg 5 [.co [1,1,1,0,1,0,0,1,0],.co [1,1,1,0,1,0,0,1,1],.le 1,.bl 0,.le 0,.co [1,1,1,1]] [(1,.pointer (some ⟨g1,0,none⟩)),(3,.int .i64 left1),(38,.slice A0_10 x_.Attrs.length c0_10),(39,.int .i64 (x_.Attrs.length:Int)),(40,.int .i64 (t1:Int)),(41,.bool (decide ((t1:Int) < (x_.Attrs.length:Int))))] ?_
      rcases condT hb_165 with ⟨hb167,hb_165⟩ | ⟨hb167,hb_165⟩
      ·rw [hb167]
       have p167:=of_decide_eq_true hb167
       refine Sg 6 [.op [1,1,1,0,1,0,0,1,1,0,0,0] 0,.co [1,1,1,0,1,0,0,1,1,0,0,1],.bl 1,.co [1,1,1,0,1,0,0,1,1,1],.le 1,.bl 0,.le 0,.co [1,1,1,1]] [(1,.pointer (some ⟨g1,0,none⟩)),(3,.int .i64 left1),(38,.slice A0_10 x_.Attrs.length c0_10),(39,.int .i64 (x_.Attrs.length:Int)),(40,.int .i64 (t1:Int))] ?_
       obtain ⟨x_2,h_x_2,hb_165⟩:=bindE hb_165
       obtain ⟨ad169,_,ea169,⟨A169_1,c169_1,rfl,hl169_0,hs169_1⟩,hc169⟩:=s0_10.at_ h_x_2 (by decide)
       refine st (Ix (some 42) 42 46 2 A0_10 ad169 x_.Attrs.length c0_10 .i64 (t1:Int) ea169 (by omega) (by have:=(List.getElem?_eq_some_iff.1 h_x_2).1; omega) ?_)
       refine st (La (some 43) 46 (ad169.add (t1 * 2)) [.string ⟨x_2.Name.toArray⟩,.slice A169_1 x_2.Value.length c169_1] (fun j v hj => H.cellI (hc169 j v hj)) ?_)
       refine st (Nw (some 5) (fun g => .pointer (some ⟨g,0,none⟩)) [.string ⟨([]:List UInt8).toArray⟩,.slice none 0 0] 46 H ?_)
       intro g170 w170 H
       refine st (Sa none 46 0 g170 0 [.string ⟨x_2.Name.toArray⟩,.slice A169_1 x_2.Value.length c169_1] [.string ⟨x_2.Name.toArray⟩,.slice A169_1 x_2.Value.length c169_1] H rfl (by rfl) (of_decide_eq_true rfl) rfl ?_)
       intro w171 H
       refine Sg 5 [.op [1,1,1,0,1,0,0,1,1,0,0,1,0,0] 1,.co [1,1,1,0,1,0,0,1,1,0,0,1,0,1],.co [1,1,1,0,1,0,0,1,1,0,0,1,1],.bl 1,.co [1,1,1,0,1,0,0,1,1,1],.le 1,.bl 0,.le 0,.co [1,1,1,1]] [(1,.pointer (some ⟨g1,0,none⟩)),(3,.int .i64 left1),(5,.pointer (some ⟨g170,0,none⟩)),(38,.slice A0_10 x_.Attrs.length c0_10),(39,.int .i64 (x_.Attrs.length:Int)),(40,.int .i64 (t1:Int)),(44,.pointer (some ⟨g1,1,none⟩))] ?_
       refine st (Lr (some 45) 3 ⟨g1,1,none⟩ (.int .i64 x_.Kind) (H.cellB 1 rfl rfl) ?_)
       refine Sg 2 [.co [1,1,1,0,1,0,0,1,1,0,0,1,0,1],.co [1,1,1,0,1,0,0,1,1,0,0,1,1],.bl 1,.co [1,1,1,0,1,0,0,1,1,1],.le 1,.bl 0,.le 0,.co [1,1,1,1]] [(1,.pointer (some ⟨g1,0,none⟩)),(3,.int .i64 left1),(5,.pointer (some ⟨g170,0,none⟩)),(38,.slice A0_10 x_.Attrs.length c0_10),(39,.int .i64 (x_.Attrs.length:Int)),(40,.int .i64 (t1:Int)),(46,.bool (x_.Kind == 6))] ?_
       rw [show (x_.Kind == 6)=false from by rw [show x_.Kind=3 from eq_of_beq hb105]; rfl]
       refine Sg 6 [.op [1,1,1,0,1,0,0,1,1,0,0,1,1,0,0] 1,.co [1,1,1,0,1,0,0,1,1,0,0,1,1,0,1],.co [1,1,1,0,1,0,0,1,1,0,0,1,1,1],.bl 1,.co [1,1,1,0,1,0,0,1,1,1],.le 1,.bl 0,.le 0,.co [1,1,1,1]] [(1,.pointer (some ⟨g1,0,none⟩)),(3,.int .i64 left1),(5,.pointer (some ⟨g170,0,none⟩)),(38,.slice A0_10 x_.Attrs.length c0_10),(39,.int .i64 (x_.Attrs.length:Int)),(40,.int .i64 (t1:Int)),(47,.pointer (some ⟨g170,0,none⟩))] ?_
       refine st (Lr (some 48) 9 ⟨g170,0,none⟩ (.string ⟨x_2.Name.toArray⟩) (H.cellB 0 rfl rfl) ?_)
       refine Sg 4 [.op [1,1,1,0,1,0,0,1,1,0,0,1,1,0,0] 6,.co [1,1,1,0,1,0,0,1,1,0,0,1,1,0,1],.co [1,1,1,0,1,0,0,1,1,0,0,1,1,1],.bl 1,.co [1,1,1,0,1,0,0,1,1,1],.le 1,.bl 0,.le 0,.co [1,1,1,1]] [(1,.pointer (some ⟨g1,0,none⟩)),(3,.int .i64 left1),(5,.pointer (some ⟨g170,0,none⟩)),(38,.slice A0_10 x_.Attrs.length c0_10),(39,.int .i64 (x_.Attrs.length:Int)),(40,.int .i64 (t1:Int)),(52,.bool (decide ((x_2.Name.length:Int) > left1)))] ?_
       rcases condT hb_165 with ⟨hb172,hb_165⟩ | ⟨hb172,hb_165⟩
       ·rw [hb172]
        have p172:=of_decide_eq_true hb172
        refine Sg 16 [.co [1,1,1,0,1,0,0,1,1,0,0,1,1,0,1,0,1],.co [1,1,1,0,1,0,0,1,1,0,0,1,1,1],.bl 1,.co [1,1,1,0,1,0,0,1,1,1],.le 1,.bl 0,.le 0,.co [1,1,1,1]] [(2,.bool true)] ?_
        refine Rr [2] [.bool true] ?_
        have hret:=(hfr147 _ (hfin165 _ (Option.some.inj hb_165).symm).symm)
        subst hret
        exact ⟨_,rfl,rfl,H.scalar⟩
       ·rw [hb172]
        have p172:=of_decide_eq_false hb172
        refine Sg 1 [.op [1,1,1,0,1,0,0,1,1,0,0,1,1,0,0] 7,.co [1,1,1,0,1,0,0,1,1,0,0,1,1,0,1],.co [1,1,1,0,1,0,0,1,1,0,0,1,1,1],.bl 1,.co [1,1,1,0,1,0,0,1,1,1],.le 1,.bl 0,.le 0,.co [1,1,1,1]] [(1,.pointer (some ⟨g1,0,none⟩)),(3,.int .i64 left1),(5,.pointer (some ⟨g170,0,none⟩)),(38,.slice A0_10 x_.Attrs.length c0_10),(39,.int .i64 (x_.Attrs.length:Int)),(40,.int .i64 (t1:Int)),(52,.bool false),(53,.pointer (some ⟨g170,1,none⟩))] ?_
        refine st (Lr (some 54) 25 ⟨g170,1,none⟩ (.slice A169_1 x_2.Value.length c169_1) (H.cellB 0 rfl rfl) ?_)
        refine Sg 3 [.op [1,1,1,0,1,0,0,1,1,0,0,1,1,0,0] 11,.co [1,1,1,0,1,0,0,1,1,0,0,1,1,0,1],.co [1,1,1,0,1,0,0,1,1,0,0,1,1,1],.bl 1,.co [1,1,1,0,1,0,0,1,1,1],.le 1,.bl 0,.le 0,.co [1,1,1,1]] [(1,.pointer (some ⟨g1,0,none⟩)),(3,.int .i64 left1),(5,.pointer (some ⟨g170,0,none⟩)),(38,.slice A0_10 x_.Attrs.length c0_10),(39,.int .i64 (x_.Attrs.length:Int)),(40,.int .i64 (t1:Int)),(52,.bool false),(55,.int .i64 (x_2.Value.length:Int)),(56,.int .i64 left1),(57,.pointer (some ⟨g170,0,none⟩))] ?_
        refine st (Lr (some 58) 9 ⟨g170,0,none⟩ (.string ⟨x_2.Name.toArray⟩) (H.cellB 0 rfl rfl) ?_)
        refine Sg 5 [.co [1,1,1,0,1,0,0,1,1,0,0,1,1,0,1],.co [1,1,1,0,1,0,0,1,1,0,0,1,1,1],.bl 1,.co [1,1,1,0,1,0,0,1,1,1],.le 1,.bl 0,.le 0,.co [1,1,1,1]] [(1,.pointer (some ⟨g1,0,none⟩)),(3,.int .i64 left1),(5,.pointer (some ⟨g170,0,none⟩)),(38,.slice A0_10 x_.Attrs.length c0_10),(39,.int .i64 (x_.Attrs.length:Int)),(40,.int .i64 (t1:Int)),(62,.bool (decide ((x_2.Value.length:Int) > (IntKind.i64.wrap (left1 - (x_2.Name.length:Int))))))] ?_
        rcases condT hb_165 with ⟨hb173,hb_165⟩ | ⟨hb173,hb_165⟩
        ·rw [hb173]
         have p173:=of_decide_eq_true hb173
         refine Sg 5 [.co [1,1,1,0,1,0,0,1,1,0,0,1,1,0,1,0,1],.co [1,1,1,0,1,0,0,1,1,0,0,1,1,1],.bl 1,.co [1,1,1,0,1,0,0,1,1,1],.le 1,.bl 0,.le 0,.co [1,1,1,1]] [(2,.bool true)] ?_
         refine Rr [2] [.bool true] ?_
         have hret:=(hfr147 _ (hfin165 _ (Option.some.inj hb_165).symm).symm)
         subst hret
         exact ⟨_,rfl,rfl,H.scalar⟩
        ·rw [hb173]
         have p173:=of_decide_eq_false hb173
         refine Sg 5 [.op [1,1,1,0,1,0,0,1,1,0,0,1,1,1] 2,.bl 1,.co [1,1,1,0,1,0,0,1,1,1],.le 1,.bl 0,.le 0,.co [1,1,1,1]] [(1,.pointer (some ⟨g1,0,none⟩)),(5,.pointer (some ⟨g170,0,none⟩)),(38,.slice A0_10 x_.Attrs.length c0_10),(39,.int .i64 (x_.Attrs.length:Int)),(40,.int .i64 (t1:Int)),(63,.int .i64 left1),(64,.pointer (some ⟨g170,0,none⟩))] ?_
         refine st (Lr (some 65) 9 ⟨g170,0,none⟩ (.string ⟨x_2.Name.toArray⟩) (H.cellB 0 rfl rfl) ?_)
         refine Sg 2 [.op [1,1,1,0,1,0,0,1,1,0,0,1,1,1] 5,.bl 1,.co [1,1,1,0,1,0,0,1,1,1],.le 1,.bl 0,.le 0,.co [1,1,1,1]] [(1,.pointer (some ⟨g1,0,none⟩)),(38,.slice A0_10 x_.Attrs.length c0_10),(39,.int .i64 (x_.Attrs.length:Int)),(40,.int .i64 (t1:Int)),(63,.int .i64 left1),(66,.int .i64 (x_2.Name.length:Int)),(67,.pointer (some ⟨g170,1,none⟩))] ?_
         refine st (Lr (some 68) 25 ⟨g170,1,none⟩ (.slice A169_1 x_2.Value.length c169_1) (H.cellB 0 rfl rfl) ?_)
         refine Sg 10 [.le 1,.bl 0,.le 0,.co [1,1,1,1]] [(1,.pointer (some ⟨g1,0,none⟩)),(3,.int .i64 (IntKind.i64.wrap (left1 - (IntKind.i64.wrap ((x_2.Name.length:Int)+(x_2.Value.length:Int)))))),(38,.slice A0_10 x_.Attrs.length c0_10),(39,.int .i64 (x_.Attrs.length:Int)),(40,.int .i64 (IntKind.i64.wrap ((t1:Int)+1)))] ?_
         have:=s0_10.bound
         rw [show IntKind.i64.wrap ((t1:Int)+1)=((t1:Int)+1) from w64 (by omega)]
         refine Lq (nk165,(IntKind.i64.wrap (left1 - (IntKind.i64.wrap ((x_2.Name.length:Int)+(x_2.Value.length:Int))))),(t1+1)) (Nat.lt_succ_self _) ⟨hnx165 _ (Option.some.inj hb_165).symm,(St.takeN 1 (H.pull 1 rfl))⟩
      ·rw [hb167]
       have p167:=of_decide_eq_false hb167
       refine Sg 2 [.le 0,.co [1,1,1,1]] [] ?_
       refine leR_up (k':=[]) (by rfl) ?_
       refine Lj () ⟨(hfin165 _ (Option.some.inj hb_165).symm).symm,(St.takeN 0 H)⟩
     rintro _ wj147 ⟨hy147,H⟩
     have hf:=hfl147 _ hy147
     try dsimp only at hf
     refine Sg 4 [.co [1,1,1,1,1]] [(2,.bool false)] ?_
     refine Rr [2] [.bool false] ?_
     have hret:=(Option.some.inj hf)
     subst hret
     exact ⟨_,rfl,rfl,H.scalar⟩
   ·rw [hb105]
    refine Sg 1 [.op [1,0,0] 21,.co [1,0,1],.co [1,1]] [(1,.pointer (some ⟨g1,0,none⟩)),(21,.bool false),(25,.bool false),(26,.pointer (some ⟨g1,1,none⟩))] ?_
    refine st (Lr (some 27) 3 ⟨g1,1,none⟩ (.int .i64 x_.Kind) (H.cellB 0 rfl rfl) ?_)
    refine Sg 3 [.op [1,0,0] 25,.co [1,0,1],.co [1,1]] [(1,.pointer (some ⟨g1,0,none⟩)),(21,.bool false),(30,.bool (x_.Kind == 6))] ?_
    rcases condT hf with ⟨hb174,hf⟩ | ⟨hb174,hf⟩
    ·rw [hb174]
     refine Sg 1 [.op [1,0,0] 26,.co [1,0,1],.co [1,1]] [(1,.pointer (some ⟨g1,0,none⟩)),(21,.bool false),(30,.bool true),(31,.pointer (some ⟨g1,8,none⟩))] ?_
     refine st (Lr (some 32) 9 ⟨g1,8,none⟩ (.string ⟨x_.Target.toArray⟩) (H.cellB 0 rfl rfl) ?_)
     refine Sg 5 [.co [1,0,1],.co [1,1]] [(1,.pointer (some ⟨g1,0,none⟩)),(36,.bool (decide ((x_.Target.length:Int) > 1048576)))] ?_
     rcases condT hf with ⟨hb176,hf⟩ | ⟨hb176,hf⟩
     ·rw [hb176]
      have p176:=of_decide_eq_true hb176
      refine Sg 5 [.co [1,0,1,0,1],.co [1,1]] [(2,.bool true)] ?_
      refine Rr [2] [.bool true] ?_
      have hret:=(Option.some.inj hf)
      subst hret
      exact ⟨_,rfl,rfl,H.scalar⟩
     ·rw [hb176]
      have p176:=of_decide_eq_false hb176
      refine Sg 10 [.op [1,1,1,0,0] 1,.co [1,1,1,0,1],.co [1,1,1,1]] [(1,.pointer (some ⟨g1,0,none⟩)),(3,.int .i64 1048576),(37,.pointer (some ⟨g1,10,none⟩))] ?_
      refine st (Lr (some 38) 42 ⟨g1,10,none⟩ (.slice A0_10 x_.Attrs.length c0_10) (H.cellB 0 rfl rfl) ?_)
      refine Sg 3 [.co [1,1,1,0,1],.co [1,1,1,1]] [(1,.pointer (some ⟨g1,0,none⟩)),(3,.int .i64 1048576),(38,.slice A0_10 x_.Attrs.length c0_10),(39,.int .i64 (x_.Attrs.length:Int)),(40,.int .i64 0)] ?_
      obtain ⟨y194,hp194,hfl194,hfr194⟩:=bndE hf
      refine joinR 0 (fun (x:Unit) => []) (fun (x:Unit) (wj194:World) => y194=.inl () ∧ St w noF m m [] wj194) (by kernel_rfl) ?_ ?_
      ·refine Sg 1 [.co [1,1,1,0,1,0],.bl 0,.le 0,.co [1,1,1,1]] [(1,.pointer (some ⟨g1,0,none⟩)),(3,.int .i64 1048576),(38,.slice A0_10 x_.Attrs.length c0_10),(39,.int .i64 (x_.Attrs.length:Int)),(40,.int .i64 0)] ?_
       obtain ⟨nn202,hR202⟩:=loopO_iff.1 hp194
       refine Lp 1 (fun (x:Nat) => [(1,.pointer (some ⟨g1,0,none⟩)),(3,.int .i64 1048576),(38,.slice A0_10 x_.Attrs.length c0_10),(39,.int .i64 (x_.Attrs.length:Int)),(40,.int .i64 0)]) (fun (x:Nat) (wl202:World) => iter (fun s => manifest_tooLong_l3 x_) x ()=some y194 ∧ St w noF m m [blkI g1 [.string ⟨x_.Path.toArray⟩,.int .i64 x_.Kind,.int .i64 x_.Mode,.int .i64 x_.Uid,.int .i64 x_.Gid,.int .i64 x_.Time,.int .i64 x_.Size,.slice A0_7 x_.Data.length c0_7,.string ⟨x_.Target.toArray⟩,.int .i64 x_.Dev,.slice A0_10 x_.Attrs.length c0_10] 44] wl202) (fun (x:Nat) => x) (nn202) ?_ ?_
       ·exact ⟨hR202,H⟩
       rintro n202 wl202 ⟨hR202,H⟩
       obtain ⟨nk202,q202,rfl,hb_202,hnx202,hfin202⟩:=iterE hR202
       replace hb_202:manifest_tooLong_l3 x_=some q202:=hb_202
       unfold manifest_tooLong_l3 at hb_202
       refine Sg 5 [.co [1,1,1,0,1,0,0,1,0],.co [1,1,1,0,1,0,0,1,1],.le 1,.bl 0,.le 0,.co [1,1,1,1]] [(1,.pointer (some ⟨g1,0,none⟩)),(3,.int .i64 1048576),(38,.slice A0_10 x_.Attrs.length c0_10),(39,.int .i64 (x_.Attrs.length:Int)),(40,.int .i64 0),(41,.bool (decide (0 < (x_.Attrs.length:Int))))] ?_
       rcases condT hb_202 with ⟨hb204,hb_202⟩ | ⟨hb204,hb_202⟩
       ·rw [hb204]
        have p204:=of_decide_eq_true hb204
        refine Sg 6 [.op [1,1,1,0,1,0,0,1,1,0,0,0] 0,.co [1,1,1,0,1,0,0,1,1,0,0,1],.bl 1,.co [1,1,1,0,1,0,0,1,1,1],.le 1,.bl 0,.le 0,.co [1,1,1,1]] [(1,.pointer (some ⟨g1,0,none⟩)),(3,.int .i64 1048576),(38,.slice A0_10 x_.Attrs.length c0_10),(39,.int .i64 (x_.Attrs.length:Int)),(40,.int .i64 0)] ?_
        obtain ⟨x_3,h_x_3,hb_202⟩:=bindE hb_202
        obtain ⟨ad206,_,ea206,⟨A206_1,c206_1,rfl,hl206_0,hs206_1⟩,hc206⟩:=s0_10.at_ h_x_3 (by decide)
        refine st (Ix (some 42) 42 46 2 A0_10 ad206 x_.Attrs.length c0_10 .i64 0 ea206 (by omega) (by have:=(List.getElem?_eq_some_iff.1 h_x_3).1; omega) ?_)
        refine st (La (some 43) 46 (ad206.add (0 * 2)) [.string ⟨x_3.Name.toArray⟩,.slice A206_1 x_3.Value.length c206_1] (fun j v hj => H.cellI (hc206 j v hj)) ?_)
        refine st (Nw (some 5) (fun g => .pointer (some ⟨g,0,none⟩)) [.string ⟨([]:List UInt8).toArray⟩,.slice none 0 0] 46 H ?_)
        intro g207 w207 H
        replace H:St w noF m m [blkI g207 [.string ⟨([]:List UInt8).toArray⟩,.slice none 0 0] 46,blkI g1 [.string ⟨x_.Path.toArray⟩,.int .i64 x_.Kind,.int .i64 x_.Mode,.int .i64 x_.Uid,.int .i64 x_.Gid,.int .i64 x_.Time,.int .i64 x_.Size,.slice A0_7 x_.Data.length c0_7,.string ⟨x_.Target.toArray⟩,.int .i64 x_.Dev,.slice A0_10 x_.Attrs.length c0_10] 44] w207:=H
        refine st (Sa none 46 0 g207 0 [.string ⟨x_3.Name.toArray⟩,.slice A206_1 x_3.Value.length c206_1] [.string ⟨x_3.Name.toArray⟩,.slice A206_1 x_3.Value.length c206_1] H rfl (by rfl) (of_decide_eq_true rfl) rfl ?_)
        intro w208 H
        refine Sg 5 [.op [1,1,1,0,1,0,0,1,1,0,0,1,0,0] 1,.co [1,1,1,0,1,0,0,1,1,0,0,1,0,1],.co [1,1,1,0,1,0,0,1,1,0,0,1,1],.bl 1,.co [1,1,1,0,1,0,0,1,1,1],.le 1,.bl 0,.le 0,.co [1,1,1,1]] [(1,.pointer (some ⟨g1,0,none⟩)),(3,.int .i64 1048576),(5,.pointer (some ⟨g207,0,none⟩)),(38,.slice A0_10 x_.Attrs.length c0_10),(39,.int .i64 (x_.Attrs.length:Int)),(40,.int .i64 0),(44,.pointer (some ⟨g1,1,none⟩))] ?_
        refine st (Lr (some 45) 3 ⟨g1,1,none⟩ (.int .i64 x_.Kind) (H.cellB 1 rfl rfl) ?_)
        refine Sg 2 [.co [1,1,1,0,1,0,0,1,1,0,0,1,0,1],.co [1,1,1,0,1,0,0,1,1,0,0,1,1],.bl 1,.co [1,1,1,0,1,0,0,1,1,1],.le 1,.bl 0,.le 0,.co [1,1,1,1]] [(1,.pointer (some ⟨g1,0,none⟩)),(3,.int .i64 1048576),(5,.pointer (some ⟨g207,0,none⟩)),(38,.slice A0_10 x_.Attrs.length c0_10),(39,.int .i64 (x_.Attrs.length:Int)),(40,.int .i64 0),(46,.bool (x_.Kind == 6))] ?_
        rw [show (x_.Kind == 6)=true from hb174]
        refine Sg 5 [.co [1,1,1,0,1,0,0,1,1,0,0,1,0,1,0,1],.co [1,1,1,0,1,0,0,1,1,0,0,1,1],.bl 1,.co [1,1,1,0,1,0,0,1,1,1],.le 1,.bl 0,.le 0,.co [1,1,1,1]] [(2,.bool false)] ?_
        refine Rr [2] [.bool false] ?_
        have hret:=(hfr194 _ (hfin202 _ (Option.some.inj hb_202).symm).symm)
        subst hret
        exact ⟨_,rfl,rfl,H.scalar⟩
       ·rw [hb204]
        have p204:=of_decide_eq_false hb204
        refine Sg 2 [.le 0,.co [1,1,1,1]] [] ?_
        refine leR_up (k':=[]) (by rfl) ?_
        refine Lj () ⟨(hfin202 _ (Option.some.inj hb_202).symm).symm,(St.takeN 0 H)⟩
      rintro _ wj194 ⟨hy194,H⟩
      have hf:=hfl194 _ hy194
      try dsimp only at hf
      refine Sg 4 [.co [1,1,1,1,1]] [(2,.bool false)] ?_
      refine Rr [2] [.bool false] ?_
      have hret:=(Option.some.inj hf)
      subst hret
      exact ⟨_,rfl,rfl,H.scalar⟩
    ·rw [hb174]
     refine Sg 17 [.op [1,1,1,0,0] 1,.co [1,1,1,0,1],.co [1,1,1,1]] [(1,.pointer (some ⟨g1,0,none⟩)),(3,.int .i64 1048576),(37,.pointer (some ⟨g1,10,none⟩))] ?_
     refine st (Lr (some 38) 42 ⟨g1,10,none⟩ (.slice A0_10 x_.Attrs.length c0_10) (H.cellB 0 rfl rfl) ?_)
     refine Sg 3 [.co [1,1,1,0,1],.co [1,1,1,1]] [(1,.pointer (some ⟨g1,0,none⟩)),(3,.int .i64 1048576),(38,.slice A0_10 x_.Attrs.length c0_10),(39,.int .i64 (x_.Attrs.length:Int)),(40,.int .i64 0)] ?_
     obtain ⟨y248,hp248,hfl248,hfr248⟩:=bndE hf
     refine joinR 0 (fun (x:Unit) => []) (fun (x:Unit) (wj248:World) => y248=.inl () ∧ St w noF m m [] wj248) (by kernel_rfl) ?_ ?_
     ·refine Sg 1 [.co [1,1,1,0,1,0],.bl 0,.le 0,.co [1,1,1,1]] [(1,.pointer (some ⟨g1,0,none⟩)),(3,.int .i64 1048576),(38,.slice A0_10 x_.Attrs.length c0_10),(39,.int .i64 (x_.Attrs.length:Int)),(40,.int .i64 0)] ?_
      obtain ⟨nn266,hR266⟩:=loopO_iff.1 hp248
      refine Lp 1 (fun (x:Nat × Int × Nat) => [(1,.pointer (some ⟨g1,0,none⟩)),(3,.int .i64 x.2.1),(38,.slice A0_10 x_.Attrs.length c0_10),(39,.int .i64 (x_.Attrs.length:Int)),(40,.int .i64 (x.2.2:Int))]) (fun (x:Nat × Int × Nat) (wl266:World) => iter (fun s => manifest_tooLong_l4 x_ s.1 s.2) x.1 (x.2.1,x.2.2)=some y248 ∧ St w noF m m [blkI g1 [.string ⟨x_.Path.toArray⟩,.int .i64 x_.Kind,.int .i64 x_.Mode,.int .i64 x_.Uid,.int .i64 x_.Gid,.int .i64 x_.Time,.int .i64 x_.Size,.slice A0_7 x_.Data.length c0_7,.string ⟨x_.Target.toArray⟩,.int .i64 x_.Dev,.slice A0_10 x_.Attrs.length c0_10] 44] wl266) (fun (x:Nat × Int × Nat) => x.1) (nn266,1048576,0) ?_ ?_
      ·exact ⟨hR266,H⟩
      rintro ⟨n266,left2,t2⟩ wl266 ⟨hR266,H⟩
      try dsimp only at hR266
      try dsimp only at H
      obtain ⟨nk266,q266,rfl,hb_266,hnx266,hfin266⟩:=iterE hR266
      replace hb_266:manifest_tooLong_l4 x_ left2 t2=some q266:=hb_266
      unfold manifest_tooLong_l4 at hb_266
      refine Sg 5 [.co [1,1,1,0,1,0,0,1,0],.co [1,1,1,0,1,0,0,1,1],.le 1,.bl 0,.le 0,.co [1,1,1,1]] [(1,.pointer (some ⟨g1,0,none⟩)),(3,.int .i64 left2),(38,.slice A0_10 x_.Attrs.length c0_10),(39,.int .i64 (x_.Attrs.length:Int)),(40,.int .i64 (t2:Int)),(41,.bool (decide ((t2:Int) < (x_.Attrs.length:Int))))] ?_
      rcases condT hb_266 with ⟨hb268,hb_266⟩ | ⟨hb268,hb_266⟩
      ·rw [hb268]
       have p268:=of_decide_eq_true hb268
       refine Sg 6 [.op [1,1,1,0,1,0,0,1,1,0,0,0] 0,.co [1,1,1,0,1,0,0,1,1,0,0,1],.bl 1,.co [1,1,1,0,1,0,0,1,1,1],.le 1,.bl 0,.le 0,.co [1,1,1,1]] [(1,.pointer (some ⟨g1,0,none⟩)),(3,.int .i64 left2),(38,.slice A0_10 x_.Attrs.length c0_10),(39,.int .i64 (x_.Attrs.length:Int)),(40,.int .i64 (t2:Int))] ?_
       obtain ⟨x_4,h_x_4,hb_266⟩:=bindE hb_266
       obtain ⟨ad270,_,ea270,⟨A270_1,c270_1,rfl,hl270_0,hs270_1⟩,hc270⟩:=s0_10.at_ h_x_4 (by decide)
       refine st (Ix (some 42) 42 46 2 A0_10 ad270 x_.Attrs.length c0_10 .i64 (t2:Int) ea270 (by omega) (by have:=(List.getElem?_eq_some_iff.1 h_x_4).1; omega) ?_)
       refine st (La (some 43) 46 (ad270.add (t2 * 2)) [.string ⟨x_4.Name.toArray⟩,.slice A270_1 x_4.Value.length c270_1] (fun j v hj => H.cellI (hc270 j v hj)) ?_)
       refine st (Nw (some 5) (fun g => .pointer (some ⟨g,0,none⟩)) [.string ⟨([]:List UInt8).toArray⟩,.slice none 0 0] 46 H ?_)
       intro g271 w271 H
       replace H:St w noF m m [blkI g271 [.string ⟨([]:List UInt8).toArray⟩,.slice none 0 0] 46,blkI g1 [.string ⟨x_.Path.toArray⟩,.int .i64 x_.Kind,.int .i64 x_.Mode,.int .i64 x_.Uid,.int .i64 x_.Gid,.int .i64 x_.Time,.int .i64 x_.Size,.slice A0_7 x_.Data.length c0_7,.string ⟨x_.Target.toArray⟩,.int .i64 x_.Dev,.slice A0_10 x_.Attrs.length c0_10] 44] w271:=H
       refine st (Sa none 46 0 g271 0 [.string ⟨x_4.Name.toArray⟩,.slice A270_1 x_4.Value.length c270_1] [.string ⟨x_4.Name.toArray⟩,.slice A270_1 x_4.Value.length c270_1] H rfl (by rfl) (of_decide_eq_true rfl) rfl ?_)
       intro w272 H
       refine Sg 5 [.op [1,1,1,0,1,0,0,1,1,0,0,1,0,0] 1,.co [1,1,1,0,1,0,0,1,1,0,0,1,0,1],.co [1,1,1,0,1,0,0,1,1,0,0,1,1],.bl 1,.co [1,1,1,0,1,0,0,1,1,1],.le 1,.bl 0,.le 0,.co [1,1,1,1]] [(1,.pointer (some ⟨g1,0,none⟩)),(3,.int .i64 left2),(5,.pointer (some ⟨g271,0,none⟩)),(38,.slice A0_10 x_.Attrs.length c0_10),(39,.int .i64 (x_.Attrs.length:Int)),(40,.int .i64 (t2:Int)),(44,.pointer (some ⟨g1,1,none⟩))] ?_
       refine st (Lr (some 45) 3 ⟨g1,1,none⟩ (.int .i64 x_.Kind) (H.cellB 1 rfl rfl) ?_)
       refine Sg 2 [.co [1,1,1,0,1,0,0,1,1,0,0,1,0,1],.co [1,1,1,0,1,0,0,1,1,0,0,1,1],.bl 1,.co [1,1,1,0,1,0,0,1,1,1],.le 1,.bl 0,.le 0,.co [1,1,1,1]] [(1,.pointer (some ⟨g1,0,none⟩)),(3,.int .i64 left2),(5,.pointer (some ⟨g271,0,none⟩)),(38,.slice A0_10 x_.Attrs.length c0_10),(39,.int .i64 (x_.Attrs.length:Int)),(40,.int .i64 (t2:Int)),(46,.bool (x_.Kind == 6))] ?_
       rw [show (x_.Kind == 6)=false from hb174]
       refine Sg 6 [.op [1,1,1,0,1,0,0,1,1,0,0,1,1,0,0] 1,.co [1,1,1,0,1,0,0,1,1,0,0,1,1,0,1],.co [1,1,1,0,1,0,0,1,1,0,0,1,1,1],.bl 1,.co [1,1,1,0,1,0,0,1,1,1],.le 1,.bl 0,.le 0,.co [1,1,1,1]] [(1,.pointer (some ⟨g1,0,none⟩)),(3,.int .i64 left2),(5,.pointer (some ⟨g271,0,none⟩)),(38,.slice A0_10 x_.Attrs.length c0_10),(39,.int .i64 (x_.Attrs.length:Int)),(40,.int .i64 (t2:Int)),(47,.pointer (some ⟨g271,0,none⟩))] ?_
       refine st (Lr (some 48) 9 ⟨g271,0,none⟩ (.string ⟨x_4.Name.toArray⟩) (H.cellB 0 rfl rfl) ?_)
       refine Sg 4 [.op [1,1,1,0,1,0,0,1,1,0,0,1,1,0,0] 6,.co [1,1,1,0,1,0,0,1,1,0,0,1,1,0,1],.co [1,1,1,0,1,0,0,1,1,0,0,1,1,1],.bl 1,.co [1,1,1,0,1,0,0,1,1,1],.le 1,.bl 0,.le 0,.co [1,1,1,1]] [(1,.pointer (some ⟨g1,0,none⟩)),(3,.int .i64 left2),(5,.pointer (some ⟨g271,0,none⟩)),(38,.slice A0_10 x_.Attrs.length c0_10),(39,.int .i64 (x_.Attrs.length:Int)),(40,.int .i64 (t2:Int)),(52,.bool (decide ((x_4.Name.length:Int) > left2)))] ?_
       rcases condT hb_266 with ⟨hb273,hb_266⟩ | ⟨hb273,hb_266⟩
       ·rw [hb273]
        have p273:=of_decide_eq_true hb273
        refine Sg 16 [.co [1,1,1,0,1,0,0,1,1,0,0,1,1,0,1,0,1],.co [1,1,1,0,1,0,0,1,1,0,0,1,1,1],.bl 1,.co [1,1,1,0,1,0,0,1,1,1],.le 1,.bl 0,.le 0,.co [1,1,1,1]] [(2,.bool true)] ?_
        refine Rr [2] [.bool true] ?_
        have hret:=(hfr248 _ (hfin266 _ (Option.some.inj hb_266).symm).symm)
        subst hret
        exact ⟨_,rfl,rfl,H.scalar⟩
       ·rw [hb273]
        have p273:=of_decide_eq_false hb273
        refine Sg 1 [.op [1,1,1,0,1,0,0,1,1,0,0,1,1,0,0] 7,.co [1,1,1,0,1,0,0,1,1,0,0,1,1,0,1],.co [1,1,1,0,1,0,0,1,1,0,0,1,1,1],.bl 1,.co [1,1,1,0,1,0,0,1,1,1],.le 1,.bl 0,.le 0,.co [1,1,1,1]] [(1,.pointer (some ⟨g1,0,none⟩)),(3,.int .i64 left2),(5,.pointer (some ⟨g271,0,none⟩)),(38,.slice A0_10 x_.Attrs.length c0_10),(39,.int .i64 (x_.Attrs.length:Int)),(40,.int .i64 (t2:Int)),(52,.bool false),(53,.pointer (some ⟨g271,1,none⟩))] ?_
        refine st (Lr (some 54) 25 ⟨g271,1,none⟩ (.slice A270_1 x_4.Value.length c270_1) (H.cellB 0 rfl rfl) ?_)
        refine Sg 3 [.op [1,1,1,0,1,0,0,1,1,0,0,1,1,0,0] 11,.co [1,1,1,0,1,0,0,1,1,0,0,1,1,0,1],.co [1,1,1,0,1,0,0,1,1,0,0,1,1,1],.bl 1,.co [1,1,1,0,1,0,0,1,1,1],.le 1,.bl 0,.le 0,.co [1,1,1,1]] [(1,.pointer (some ⟨g1,0,none⟩)),(3,.int .i64 left2),(5,.pointer (some ⟨g271,0,none⟩)),(38,.slice A0_10 x_.Attrs.length c0_10),(39,.int .i64 (x_.Attrs.length:Int)),(40,.int .i64 (t2:Int)),(52,.bool false),(55,.int .i64 (x_4.Value.length:Int)),(56,.int .i64 left2),(57,.pointer (some ⟨g271,0,none⟩))] ?_
        refine st (Lr (some 58) 9 ⟨g271,0,none⟩ (.string ⟨x_4.Name.toArray⟩) (H.cellB 0 rfl rfl) ?_)
        refine Sg 5 [.co [1,1,1,0,1,0,0,1,1,0,0,1,1,0,1],.co [1,1,1,0,1,0,0,1,1,0,0,1,1,1],.bl 1,.co [1,1,1,0,1,0,0,1,1,1],.le 1,.bl 0,.le 0,.co [1,1,1,1]] [(1,.pointer (some ⟨g1,0,none⟩)),(3,.int .i64 left2),(5,.pointer (some ⟨g271,0,none⟩)),(38,.slice A0_10 x_.Attrs.length c0_10),(39,.int .i64 (x_.Attrs.length:Int)),(40,.int .i64 (t2:Int)),(62,.bool (decide ((x_4.Value.length:Int) > (IntKind.i64.wrap (left2 - (x_4.Name.length:Int))))))] ?_
        rcases condT hb_266 with ⟨hb274,hb_266⟩ | ⟨hb274,hb_266⟩
        ·rw [hb274]
         have p274:=of_decide_eq_true hb274
         refine Sg 5 [.co [1,1,1,0,1,0,0,1,1,0,0,1,1,0,1,0,1],.co [1,1,1,0,1,0,0,1,1,0,0,1,1,1],.bl 1,.co [1,1,1,0,1,0,0,1,1,1],.le 1,.bl 0,.le 0,.co [1,1,1,1]] [(2,.bool true)] ?_
         refine Rr [2] [.bool true] ?_
         have hret:=(hfr248 _ (hfin266 _ (Option.some.inj hb_266).symm).symm)
         subst hret
         exact ⟨_,rfl,rfl,H.scalar⟩
        ·rw [hb274]
         have p274:=of_decide_eq_false hb274
         refine Sg 5 [.op [1,1,1,0,1,0,0,1,1,0,0,1,1,1] 2,.bl 1,.co [1,1,1,0,1,0,0,1,1,1],.le 1,.bl 0,.le 0,.co [1,1,1,1]] [(1,.pointer (some ⟨g1,0,none⟩)),(5,.pointer (some ⟨g271,0,none⟩)),(38,.slice A0_10 x_.Attrs.length c0_10),(39,.int .i64 (x_.Attrs.length:Int)),(40,.int .i64 (t2:Int)),(63,.int .i64 left2),(64,.pointer (some ⟨g271,0,none⟩))] ?_
         refine st (Lr (some 65) 9 ⟨g271,0,none⟩ (.string ⟨x_4.Name.toArray⟩) (H.cellB 0 rfl rfl) ?_)
         refine Sg 2 [.op [1,1,1,0,1,0,0,1,1,0,0,1,1,1] 5,.bl 1,.co [1,1,1,0,1,0,0,1,1,1],.le 1,.bl 0,.le 0,.co [1,1,1,1]] [(1,.pointer (some ⟨g1,0,none⟩)),(38,.slice A0_10 x_.Attrs.length c0_10),(39,.int .i64 (x_.Attrs.length:Int)),(40,.int .i64 (t2:Int)),(63,.int .i64 left2),(66,.int .i64 (x_4.Name.length:Int)),(67,.pointer (some ⟨g271,1,none⟩))] ?_
         refine st (Lr (some 68) 25 ⟨g271,1,none⟩ (.slice A270_1 x_4.Value.length c270_1) (H.cellB 0 rfl rfl) ?_)
         refine Sg 10 [.le 1,.bl 0,.le 0,.co [1,1,1,1]] [(1,.pointer (some ⟨g1,0,none⟩)),(3,.int .i64 (IntKind.i64.wrap (left2 - (IntKind.i64.wrap ((x_4.Name.length:Int)+(x_4.Value.length:Int)))))),(38,.slice A0_10 x_.Attrs.length c0_10),(39,.int .i64 (x_.Attrs.length:Int)),(40,.int .i64 (IntKind.i64.wrap ((t2:Int)+1)))] ?_
         have:=s0_10.bound
         rw [show IntKind.i64.wrap ((t2:Int)+1)=((t2:Int)+1) from w64 (by omega)]
         refine Lq (nk266,(IntKind.i64.wrap (left2 - (IntKind.i64.wrap ((x_4.Name.length:Int)+(x_4.Value.length:Int))))),(t2+1)) (Nat.lt_succ_self _) ⟨hnx266 _ (Option.some.inj hb_266).symm,(St.takeN 1 (H.pull 1 rfl))⟩
      ·rw [hb268]
       have p268:=of_decide_eq_false hb268
       refine Sg 2 [.le 0,.co [1,1,1,1]] [] ?_
       refine leR_up (k':=[]) (by rfl) ?_
       refine Lj () ⟨(hfin266 _ (Option.some.inj hb_266).symm).symm,(St.takeN 0 H)⟩
     rintro _ wj248 ⟨hy248,H⟩
     have hf:=hfl248 _ hy248
     try dsimp only at hf
     refine Sg 4 [.co [1,1,1,1,1]] [(2,.bool false)] ?_
     refine Rr [2] [.bool false] ?_
     have hret:=(Option.some.inj hf)
     subst hret
     exact ⟨_,rfl,rfl,H.scalar⟩
theorem internal_strconv_small_c {m:Mem} {w:World} (hm:Has m w) (i:Int) {r:(List UInt8)} (hf:internal_strconv_small i=some r) :
  Calls Tryd.prog 53 #[.int .i64 i] w fun e w' => ∃ v,e=.returned v ∧ v=.string ⟨r.toArray⟩ ∧ Ex w w' ∧ r.length ≤ 9223372036854775807:=by
 unfold internal_strconv_small at hf
 have H:=St.start0 hm
 refine Fc Tryd.func53 ?_
 refine Sg 10 [.co [1,0,1],.co [1,1]] [(0,.int .i64 i),(4,.bool (decide (i < 10)))] ?_
 rcases condT hf with ⟨hb3,hf⟩ | ⟨hb3,hf⟩
 ·rw [hb3]
  have p3:=of_decide_eq_true hb3
  refine Sg 6 [.op [1,0,1,0,0] 3,.co [1,0,1,0,1],.co [1,1]] [(5,.int .i64 i),(7,.int .i64 (IntKind.i64.wrap (i+1)))] ?_
  obtain ⟨y_,h_y_,hf⟩:=bindE hf
  refine st (sstrS (some 8) 9 ([48,49,50,51,52,53,54,55,56,57,97,98,99,100,101,102,103,104,105,106,107,108,109,110,111,112,113,114,115,116,117,118,119,120,121,122]:List UInt8) y_ (some (.int .i64 i)) (some (.int .i64 (IntKind.i64.wrap (i+1)))) i (IntKind.i64.wrap (i+1)) (by kernel_rfl) (by kernel_rfl) (.inr ⟨_,rfl⟩) (.inr ⟨_,rfl⟩) h_y_ ?_)
  have hl4:y_.length ≤ 9223372036854775807:=Nat.le_trans (slc_le h_y_) (Nat.le_of_ble_eq_true rfl)
  refine Sg 2 [.co [1,0,1,0,1],.co [1,1]] [(2,.string ⟨y_.toArray⟩)] ?_
  refine Rr [2] [.string ⟨y_.toArray⟩] ?_
  have hret:=(Option.some.inj hf)
  subst hret
  exact ⟨_,rfl,rfl,H.scalar,hl4⟩
 ·rw [hb3]
  have p3:=of_decide_eq_false hb3
  refine Sg 9 [.op [1,1,0] 5,.co [1,1,1]] [(10,.int .i64 (IntKind.i64.wrap (i * 2))),(13,.int .i64 (IntKind.i64.wrap ((IntKind.i64.wrap (i * 2))+2)))] ?_
  obtain ⟨y_1,h_y_1,hf⟩:=bindE hf
  refine st (sstrS (some 14) 9 ([48,48,48,49,48,50,48,51,48,52,48,53,48,54,48,55,48,56,48,57,49,48,49,49,49,50,49,51,49,52,49,53,49,54,49,55,49,56,49,57,50,48,50,49,50,50,50,51,50,52,50,53,50,54,50,55,50,56,50,57,51,48,51,49,51,50,51,51,51,52,51,53,51,54,51,55,51,56,51,57,52,48,52,49,52,50,52,51,52,52,52,53,52,54,52,55,52,56,52,57,53,48,53,49,53,50,53,51,53,52,53,53,53,54,53,55,53,56,53,57,54,48,54,49,54,50,54,51,54,52,54,53,54,54,54,55,54,56,54,57,55,48,55,49,55,50,55,51,55,52,55,53,55,54,55,55,55,56,55,57,56,48,56,49,56,50,56,51,56,52,56,53,56,54,56,55,56,56,56,57,57,48,57,49,57,50,57,51,57,52,57,53,57,54,57,55,57,56,57,57]:List UInt8) y_1 (some (.int .i64 (IntKind.i64.wrap (i * 2)))) (some (.int .i64 (IntKind.i64.wrap ((IntKind.i64.wrap (i * 2))+2)))) (IntKind.i64.wrap (i * 2)) (IntKind.i64.wrap ((IntKind.i64.wrap (i * 2))+2)) (by kernel_rfl) (by kernel_rfl) (.inr ⟨_,rfl⟩) (.inr ⟨_,rfl⟩) h_y_1 ?_)
  have hl5:y_1.length ≤ 9223372036854775807:=Nat.le_trans (slc_le h_y_1) (Nat.le_of_ble_eq_true rfl)
  refine Sg 2 [.co [1,1,1]] [(2,.string ⟨y_1.toArray⟩)] ?_
  refine Rr [2] [.string ⟨y_1.toArray⟩] ?_
  have hret:=(Option.some.inj hf)
  subst hret
  exact ⟨_,rfl,rfl,H.scalar,hl5⟩
theorem math_bits_Len64_c {m:Mem} {w:World} (hm:Has m w) (x_:UInt64) {r:Int} (hf:math_bits_Len64 x_=some r) :
  Calls Tryd.prog 58 #[.int .u64 (x_.toNat:Int)] w fun e w' => ∃ v,e=.returned v ∧ v=.int .i64 r ∧ Ex w w':=by
 unfold math_bits_Len64 at hf
 have H:=St.start0 hm
 refine Fc Tryd.func58 ?_
 refine Sg 10 [.co [1,0,1],.co [1,1]] [(0,.int .u64 (x_.toNat:Int)),(2,.int .i64 0),(4,.bool (decide ((x_.toNat:Int) ≥ 4294967296)))] ?_
 rcases condT hf with ⟨hb9,hf⟩ | ⟨hb9,hf⟩
 ·rw [hb9]
  have p9:=of_decide_eq_true hb9
  refine Sg 4 [.op [1,0,1,0,0] 1,.co [1,0,1,0,1],.co [1,1]] [(5,.int .u64 (x_.toNat:Int))] ?_
  refine st (runR (by kernel_rfl:fetch _ _ _ _ _=some ((some 6),vS (Op.shift .shr .u64 (x_.toNat:Int) .u64 32))) (shr64_run _ _ (by decide)) ?_)
  refine Sg 11 [.co [1,1,0,1],.co [1,1,1]] [(0,.int .u64 ((shr64 x_ 32).toNat:Int)),(2,.int .i64 32),(8,.bool (decide (((shr64 x_ 32).toNat:Int) ≥ 65536)))] ?_
  rcases condT hf with ⟨hb10,hf⟩ | ⟨hb10,hf⟩
  ·rw [hb10]
   have p10:=of_decide_eq_true hb10
   refine Sg 4 [.op [1,1,0,1,0,0] 1,.co [1,1,0,1,0,1],.co [1,1,1]] [(2,.int .i64 32),(9,.int .u64 ((shr64 x_ 32).toNat:Int))] ?_
   refine st (runR (by kernel_rfl:fetch _ _ _ _ _=some ((some 10),vS (Op.shift .shr .u64 ((shr64 x_ 32).toNat:Int) .u64 16))) (shr64_run _ _ (by decide)) ?_)
   refine Sg 13 [.co [1,1,1,0,1],.co [1,1,1,1]] [(0,.int .u64 ((shr64 (shr64 x_ 32) 16).toNat:Int)),(2,.int .i64 48),(14,.bool (decide (((shr64 (shr64 x_ 32) 16).toNat:Int) ≥ 256)))] ?_
   rcases condT hf with ⟨hb11,hf⟩ | ⟨hb11,hf⟩
   ·rw [hb11]
    have p11:=of_decide_eq_true hb11
    refine Sg 4 [.op [1,1,1,0,1,0,0] 1,.co [1,1,1,0,1,0,1],.co [1,1,1,1]] [(2,.int .i64 48),(15,.int .u64 ((shr64 (shr64 x_ 32) 16).toNat:Int))] ?_
    refine st (runR (by kernel_rfl:fetch _ _ _ _ _=some ((some 16),vS (Op.shift .shr .u64 ((shr64 (shr64 x_ 32) 16).toNat:Int) .u64 8))) (shr64_run _ _ (by decide)) ?_)
    refine Sg 12 [.op [1,1,1,1,0] 3,.co [1,1,1,1,1]] [(19,.int .i64 56),(21,.int .u8 (IntKind.u8.wrap ((shr64 (shr64 (shr64 x_ 32) 16) 8).toNat:Int)))] ?_
    rw [q8_u64 (shr64 (shr64 (shr64 x_ 32) 16) 8)]
    obtain ⟨c,h_c,hf⟩:=bindE hf
    refine st (Ts (some 22) 9 ([0,1,2,2,3,3,3,3,4,4,4,4,4,4,4,4,5,5,5,5,5,5,5,5,5,5,5,5,5,5,5,5,6,6,6,6,6,6,6,6,6,6,6,6,6,6,6,6,6,6,6,6,6,6,6,6,6,6,6,6,6,6,6,6,7,7,7,7,7,7,7,7,7,7,7,7,7,7,7,7,7,7,7,7,7,7,7,7,7,7,7,7,7,7,7,7,7,7,7,7,7,7,7,7,7,7,7,7,7,7,7,7,7,7,7,7,7,7,7,7,7,7,7,7,7,7,7,7,8,8,8,8,8,8,8,8,8,8,8,8,8,8,8,8,8,8,8,8,8,8,8,8,8,8,8,8,8,8,8,8,8,8,8,8,8,8,8,8,8,8,8,8,8,8,8,8,8,8,8,8,8,8,8,8,8,8,8,8,8,8,8,8,8,8,8,8,8,8,8,8,8,8,8,8,8,8,8,8,8,8,8,8,8,8,8,8,8,8,8,8,8,8,8,8,8,8,8,8,8,8,8,8,8,8,8,8,8,8,8,8,8,8,8,8,8,8,8,8,8,8,8,8,8,8,8,8]:List UInt8) .u8 (((shr64 (shr64 (shr64 x_ 32) 16) 8).toUInt8).toNat:Int) c h_c ?_)
    refine Sg 4 [.co [1,1,1,1,1]] [(2,.int .i64 (IntKind.i64.wrap (56+(IntKind.i64.wrap (c.toNat:Int)))))] ?_
    have:=c.toNat_lt
    rw [show IntKind.i64.wrap (c.toNat:Int)=(c.toNat:Int) from w64 (by omega)]
    have:=c.toNat_lt
    rw [show IntKind.i64.wrap (56+(c.toNat:Int))=(56+(c.toNat:Int)) from w64 (by omega)]
    refine Rr [2] [.int .i64 (56+(c.toNat:Int))] ?_
    obtain rfl:(56+(c.toNat:Int))=r:=(Option.some.inj hf)
    exact ⟨_,rfl,rfl,H.scalar⟩
   ·rw [hb11]
    have p11:=of_decide_eq_false hb11
    refine Sg 7 [.op [1,1,1,1,0] 3,.co [1,1,1,1,1]] [(19,.int .i64 48),(21,.int .u8 (IntKind.u8.wrap ((shr64 (shr64 x_ 32) 16).toNat:Int)))] ?_
    rw [q8_u64 (shr64 (shr64 x_ 32) 16)]
    obtain ⟨c1,h_c1,hf⟩:=bindE hf
    refine st (Ts (some 22) 9 ([0,1,2,2,3,3,3,3,4,4,4,4,4,4,4,4,5,5,5,5,5,5,5,5,5,5,5,5,5,5,5,5,6,6,6,6,6,6,6,6,6,6,6,6,6,6,6,6,6,6,6,6,6,6,6,6,6,6,6,6,6,6,6,6,7,7,7,7,7,7,7,7,7,7,7,7,7,7,7,7,7,7,7,7,7,7,7,7,7,7,7,7,7,7,7,7,7,7,7,7,7,7,7,7,7,7,7,7,7,7,7,7,7,7,7,7,7,7,7,7,7,7,7,7,7,7,7,7,8,8,8,8,8,8,8,8,8,8,8,8,8,8,8,8,8,8,8,8,8,8,8,8,8,8,8,8,8,8,8,8,8,8,8,8,8,8,8,8,8,8,8,8,8,8,8,8,8,8,8,8,8,8,8,8,8,8,8,8,8,8,8,8,8,8,8,8,8,8,8,8,8,8,8,8,8,8,8,8,8,8,8,8,8,8,8,8,8,8,8,8,8,8,8,8,8,8,8,8,8,8,8,8,8,8,8,8,8,8,8,8,8,8,8,8,8,8,8,8,8,8,8,8,8,8,8,8]:List UInt8) .u8 (((shr64 (shr64 x_ 32) 16).toUInt8).toNat:Int) c1 h_c1 ?_)
    refine Sg 4 [.co [1,1,1,1,1]] [(2,.int .i64 (IntKind.i64.wrap (48+(IntKind.i64.wrap (c1.toNat:Int)))))] ?_
    have:=c1.toNat_lt
    rw [show IntKind.i64.wrap (c1.toNat:Int)=(c1.toNat:Int) from w64 (by omega)]
    have:=c1.toNat_lt
    rw [show IntKind.i64.wrap (48+(c1.toNat:Int))=(48+(c1.toNat:Int)) from w64 (by omega)]
    refine Rr [2] [.int .i64 (48+(c1.toNat:Int))] ?_
    obtain rfl:(48+(c1.toNat:Int))=r:=(Option.some.inj hf)
    exact ⟨_,rfl,rfl,H.scalar⟩
  ·rw [hb10]
   have p10:=of_decide_eq_false hb10
   refine Sg 8 [.co [1,1,1,0,1],.co [1,1,1,1]] [(0,.int .u64 ((shr64 x_ 32).toNat:Int)),(2,.int .i64 32),(14,.bool (decide (((shr64 x_ 32).toNat:Int) ≥ 256)))] ?_
   rcases condT hf with ⟨hb12,hf⟩ | ⟨hb12,hf⟩
   ·rw [hb12]
    have p12:=of_decide_eq_true hb12
    refine Sg 4 [.op [1,1,1,0,1,0,0] 1,.co [1,1,1,0,1,0,1],.co [1,1,1,1]] [(2,.int .i64 32),(15,.int .u64 ((shr64 x_ 32).toNat:Int))] ?_
    refine st (runR (by kernel_rfl:fetch _ _ _ _ _=some ((some 16),vS (Op.shift .shr .u64 ((shr64 x_ 32).toNat:Int) .u64 8))) (shr64_run _ _ (by decide)) ?_)
    refine Sg 12 [.op [1,1,1,1,0] 3,.co [1,1,1,1,1]] [(19,.int .i64 40),(21,.int .u8 (IntKind.u8.wrap ((shr64 (shr64 x_ 32) 8).toNat:Int)))] ?_
    rw [q8_u64 (shr64 (shr64 x_ 32) 8)]
    obtain ⟨c2,h_c2,hf⟩:=bindE hf
    refine st (Ts (some 22) 9 ([0,1,2,2,3,3,3,3,4,4,4,4,4,4,4,4,5,5,5,5,5,5,5,5,5,5,5,5,5,5,5,5,6,6,6,6,6,6,6,6,6,6,6,6,6,6,6,6,6,6,6,6,6,6,6,6,6,6,6,6,6,6,6,6,7,7,7,7,7,7,7,7,7,7,7,7,7,7,7,7,7,7,7,7,7,7,7,7,7,7,7,7,7,7,7,7,7,7,7,7,7,7,7,7,7,7,7,7,7,7,7,7,7,7,7,7,7,7,7,7,7,7,7,7,7,7,7,7,8,8,8,8,8,8,8,8,8,8,8,8,8,8,8,8,8,8,8,8,8,8,8,8,8,8,8,8,8,8,8,8,8,8,8,8,8,8,8,8,8,8,8,8,8,8,8,8,8,8,8,8,8,8,8,8,8,8,8,8,8,8,8,8,8,8,8,8,8,8,8,8,8,8,8,8,8,8,8,8,8,8,8,8,8,8,8,8,8,8,8,8,8,8,8,8,8,8,8,8,8,8,8,8,8,8,8,8,8,8,8,8,8,8,8,8,8,8,8,8,8,8,8,8,8,8,8,8]:List UInt8) .u8 (((shr64 (shr64 x_ 32) 8).toUInt8).toNat:Int) c2 h_c2 ?_)
    refine Sg 4 [.co [1,1,1,1,1]] [(2,.int .i64 (IntKind.i64.wrap (40+(IntKind.i64.wrap (c2.toNat:Int)))))] ?_
    have:=c2.toNat_lt
    rw [show IntKind.i64.wrap (c2.toNat:Int)=(c2.toNat:Int) from w64 (by omega)]
    have:=c2.toNat_lt
    rw [show IntKind.i64.wrap (40+(c2.toNat:Int))=(40+(c2.toNat:Int)) from w64 (by omega)]
    refine Rr [2] [.int .i64 (40+(c2.toNat:Int))] ?_
    obtain rfl:(40+(c2.toNat:Int))=r:=(Option.some.inj hf)
    exact ⟨_,rfl,rfl,H.scalar⟩
   ·rw [hb12]
    have p12:=of_decide_eq_false hb12
    refine Sg 7 [.op [1,1,1,1,0] 3,.co [1,1,1,1,1]] [(19,.int .i64 32),(21,.int .u8 (IntKind.u8.wrap ((shr64 x_ 32).toNat:Int)))] ?_
    rw [q8_u64 (shr64 x_ 32)]
    obtain ⟨c3,h_c3,hf⟩:=bindE hf
    refine st (Ts (some 22) 9 ([0,1,2,2,3,3,3,3,4,4,4,4,4,4,4,4,5,5,5,5,5,5,5,5,5,5,5,5,5,5,5,5,6,6,6,6,6,6,6,6,6,6,6,6,6,6,6,6,6,6,6,6,6,6,6,6,6,6,6,6,6,6,6,6,7,7,7,7,7,7,7,7,7,7,7,7,7,7,7,7,7,7,7,7,7,7,7,7,7,7,7,7,7,7,7,7,7,7,7,7,7,7,7,7,7,7,7,7,7,7,7,7,7,7,7,7,7,7,7,7,7,7,7,7,7,7,7,7,8,8,8,8,8,8,8,8,8,8,8,8,8,8,8,8,8,8,8,8,8,8,8,8,8,8,8,8,8,8,8,8,8,8,8,8,8,8,8,8,8,8,8,8,8,8,8,8,8,8,8,8,8,8,8,8,8,8,8,8,8,8,8,8,8,8,8,8,8,8,8,8,8,8,8,8,8,8,8,8,8,8,8,8,8,8,8,8,8,8,8,8,8,8,8,8,8,8,8,8,8,8,8,8,8,8,8,8,8,8,8,8,8,8,8,8,8,8,8,8,8,8,8,8,8,8,8,8]:List UInt8) .u8 (((shr64 x_ 32).toUInt8).toNat:Int) c3 h_c3 ?_)
    refine Sg 4 [.co [1,1,1,1,1]] [(2,.int .i64 (IntKind.i64.wrap (32+(IntKind.i64.wrap (c3.toNat:Int)))))] ?_
    have:=c3.toNat_lt
    rw [show IntKind.i64.wrap (c3.toNat:Int)=(c3.toNat:Int) from w64 (by omega)]
    have:=c3.toNat_lt
    rw [show IntKind.i64.wrap (32+(c3.toNat:Int))=(32+(c3.toNat:Int)) from w64 (by omega)]
    refine Rr [2] [.int .i64 (32+(c3.toNat:Int))] ?_
    obtain rfl:(32+(c3.toNat:Int))=r:=(Option.some.inj hf)
    exact ⟨_,rfl,rfl,H.scalar⟩
 ·rw [hb9]
  have p9:=of_decide_eq_false hb9
  refine Sg 8 [.co [1,1,0,1],.co [1,1,1]] [(0,.int .u64 (x_.toNat:Int)),(2,.int .i64 0),(8,.bool (decide ((x_.toNat:Int) ≥ 65536)))] ?_
  rcases condT hf with ⟨hb13,hf⟩ | ⟨hb13,hf⟩
  ·rw [hb13]
   have p13:=of_decide_eq_true hb13
   refine Sg 4 [.op [1,1,0,1,0,0] 1,.co [1,1,0,1,0,1],.co [1,1,1]] [(2,.int .i64 0),(9,.int .u64 (x_.toNat:Int))] ?_
   refine st (runR (by kernel_rfl:fetch _ _ _ _ _=some ((some 10),vS (Op.shift .shr .u64 (x_.toNat:Int) .u64 16))) (shr64_run _ _ (by decide)) ?_)
   refine Sg 13 [.co [1,1,1,0,1],.co [1,1,1,1]] [(0,.int .u64 ((shr64 x_ 16).toNat:Int)),(2,.int .i64 16),(14,.bool (decide (((shr64 x_ 16).toNat:Int) ≥ 256)))] ?_
   rcases condT hf with ⟨hb14,hf⟩ | ⟨hb14,hf⟩
   ·rw [hb14]
    have p14:=of_decide_eq_true hb14
    refine Sg 4 [.op [1,1,1,0,1,0,0] 1,.co [1,1,1,0,1,0,1],.co [1,1,1,1]] [(2,.int .i64 16),(15,.int .u64 ((shr64 x_ 16).toNat:Int))] ?_
    refine st (runR (by kernel_rfl:fetch _ _ _ _ _=some ((some 16),vS (Op.shift .shr .u64 ((shr64 x_ 16).toNat:Int) .u64 8))) (shr64_run _ _ (by decide)) ?_)
    refine Sg 12 [.op [1,1,1,1,0] 3,.co [1,1,1,1,1]] [(19,.int .i64 24),(21,.int .u8 (IntKind.u8.wrap ((shr64 (shr64 x_ 16) 8).toNat:Int)))] ?_
    rw [q8_u64 (shr64 (shr64 x_ 16) 8)]
    obtain ⟨c4,h_c4,hf⟩:=bindE hf
    refine st (Ts (some 22) 9 ([0,1,2,2,3,3,3,3,4,4,4,4,4,4,4,4,5,5,5,5,5,5,5,5,5,5,5,5,5,5,5,5,6,6,6,6,6,6,6,6,6,6,6,6,6,6,6,6,6,6,6,6,6,6,6,6,6,6,6,6,6,6,6,6,7,7,7,7,7,7,7,7,7,7,7,7,7,7,7,7,7,7,7,7,7,7,7,7,7,7,7,7,7,7,7,7,7,7,7,7,7,7,7,7,7,7,7,7,7,7,7,7,7,7,7,7,7,7,7,7,7,7,7,7,7,7,7,7,8,8,8,8,8,8,8,8,8,8,8,8,8,8,8,8,8,8,8,8,8,8,8,8,8,8,8,8,8,8,8,8,8,8,8,8,8,8,8,8,8,8,8,8,8,8,8,8,8,8,8,8,8,8,8,8,8,8,8,8,8,8,8,8,8,8,8,8,8,8,8,8,8,8,8,8,8,8,8,8,8,8,8,8,8,8,8,8,8,8,8,8,8,8,8,8,8,8,8,8,8,8,8,8,8,8,8,8,8,8,8,8,8,8,8,8,8,8,8,8,8,8,8,8,8,8,8,8]:List UInt8) .u8 (((shr64 (shr64 x_ 16) 8).toUInt8).toNat:Int) c4 h_c4 ?_)
    refine Sg 4 [.co [1,1,1,1,1]] [(2,.int .i64 (IntKind.i64.wrap (24+(IntKind.i64.wrap (c4.toNat:Int)))))] ?_
    have:=c4.toNat_lt
    rw [show IntKind.i64.wrap (c4.toNat:Int)=(c4.toNat:Int) from w64 (by omega)]
    have:=c4.toNat_lt
    rw [show IntKind.i64.wrap (24+(c4.toNat:Int))=(24+(c4.toNat:Int)) from w64 (by omega)]
    refine Rr [2] [.int .i64 (24+(c4.toNat:Int))] ?_
    obtain rfl:(24+(c4.toNat:Int))=r:=(Option.some.inj hf)
    exact ⟨_,rfl,rfl,H.scalar⟩
   ·rw [hb14]
    have p14:=of_decide_eq_false hb14
    refine Sg 7 [.op [1,1,1,1,0] 3,.co [1,1,1,1,1]] [(19,.int .i64 16),(21,.int .u8 (IntKind.u8.wrap ((shr64 x_ 16).toNat:Int)))] ?_
    rw [q8_u64 (shr64 x_ 16)]
    obtain ⟨c5,h_c5,hf⟩:=bindE hf
    refine st (Ts (some 22) 9 ([0,1,2,2,3,3,3,3,4,4,4,4,4,4,4,4,5,5,5,5,5,5,5,5,5,5,5,5,5,5,5,5,6,6,6,6,6,6,6,6,6,6,6,6,6,6,6,6,6,6,6,6,6,6,6,6,6,6,6,6,6,6,6,6,7,7,7,7,7,7,7,7,7,7,7,7,7,7,7,7,7,7,7,7,7,7,7,7,7,7,7,7,7,7,7,7,7,7,7,7,7,7,7,7,7,7,7,7,7,7,7,7,7,7,7,7,7,7,7,7,7,7,7,7,7,7,7,7,8,8,8,8,8,8,8,8,8,8,8,8,8,8,8,8,8,8,8,8,8,8,8,8,8,8,8,8,8,8,8,8,8,8,8,8,8,8,8,8,8,8,8,8,8,8,8,8,8,8,8,8,8,8,8,8,8,8,8,8,8,8,8,8,8,8,8,8,8,8,8,8,8,8,8,8,8,8,8,8,8,8,8,8,8,8,8,8,8,8,8,8,8,8,8,8,8,8,8,8,8,8,8,8,8,8,8,8,8,8,8,8,8,8,8,8,8,8,8,8,8,8,8,8,8,8,8,8]:List UInt8) .u8 (((shr64 x_ 16).toUInt8).toNat:Int) c5 h_c5 ?_)
    refine Sg 4 [.co [1,1,1,1,1]] [(2,.int .i64 (IntKind.i64.wrap (16+(IntKind.i64.wrap (c5.toNat:Int)))))] ?_
    have:=c5.toNat_lt
    rw [show IntKind.i64.wrap (c5.toNat:Int)=(c5.toNat:Int) from w64 (by omega)]
    have:=c5.toNat_lt
    rw [show IntKind.i64.wrap (16+(c5.toNat:Int))=(16+(c5.toNat:Int)) from w64 (by omega)]
    refine Rr [2] [.int .i64 (16+(c5.toNat:Int))] ?_
    obtain rfl:(16+(c5.toNat:Int))=r:=(Option.some.inj hf)
    exact ⟨_,rfl,rfl,H.scalar⟩
  ·rw [hb13]
   have p13:=of_decide_eq_false hb13
   refine Sg 8 [.co [1,1,1,0,1],.co [1,1,1,1]] [(0,.int .u64 (x_.toNat:Int)),(2,.int .i64 0),(14,.bool (decide ((x_.toNat:Int) ≥ 256)))] ?_
   rcases condT hf with ⟨hb15,hf⟩ | ⟨hb15,hf⟩
   ·rw [hb15]
    have p15:=of_decide_eq_true hb15
    refine Sg 4 [.op [1,1,1,0,1,0,0] 1,.co [1,1,1,0,1,0,1],.co [1,1,1,1]] [(2,.int .i64 0),(15,.int .u64 (x_.toNat:Int))] ?_
    refine st (runR (by kernel_rfl:fetch _ _ _ _ _=some ((some 16),vS (Op.shift .shr .u64 (x_.toNat:Int) .u64 8))) (shr64_run _ _ (by decide)) ?_)
    refine Sg 12 [.op [1,1,1,1,0] 3,.co [1,1,1,1,1]] [(19,.int .i64 8),(21,.int .u8 (IntKind.u8.wrap ((shr64 x_ 8).toNat:Int)))] ?_
    rw [q8_u64 (shr64 x_ 8)]
    obtain ⟨c6,h_c6,hf⟩:=bindE hf
    refine st (Ts (some 22) 9 ([0,1,2,2,3,3,3,3,4,4,4,4,4,4,4,4,5,5,5,5,5,5,5,5,5,5,5,5,5,5,5,5,6,6,6,6,6,6,6,6,6,6,6,6,6,6,6,6,6,6,6,6,6,6,6,6,6,6,6,6,6,6,6,6,7,7,7,7,7,7,7,7,7,7,7,7,7,7,7,7,7,7,7,7,7,7,7,7,7,7,7,7,7,7,7,7,7,7,7,7,7,7,7,7,7,7,7,7,7,7,7,7,7,7,7,7,7,7,7,7,7,7,7,7,7,7,7,7,8,8,8,8,8,8,8,8,8,8,8,8,8,8,8,8,8,8,8,8,8,8,8,8,8,8,8,8,8,8,8,8,8,8,8,8,8,8,8,8,8,8,8,8,8,8,8,8,8,8,8,8,8,8,8,8,8,8,8,8,8,8,8,8,8,8,8,8,8,8,8,8,8,8,8,8,8,8,8,8,8,8,8,8,8,8,8,8,8,8,8,8,8,8,8,8,8,8,8,8,8,8,8,8,8,8,8,8,8,8,8,8,8,8,8,8,8,8,8,8,8,8,8,8,8,8,8,8]:List UInt8) .u8 (((shr64 x_ 8).toUInt8).toNat:Int) c6 h_c6 ?_)
    refine Sg 4 [.co [1,1,1,1,1]] [(2,.int .i64 (IntKind.i64.wrap (8+(IntKind.i64.wrap (c6.toNat:Int)))))] ?_
    have:=c6.toNat_lt
    rw [show IntKind.i64.wrap (c6.toNat:Int)=(c6.toNat:Int) from w64 (by omega)]
    have:=c6.toNat_lt
    rw [show IntKind.i64.wrap (8+(c6.toNat:Int))=(8+(c6.toNat:Int)) from w64 (by omega)]
    refine Rr [2] [.int .i64 (8+(c6.toNat:Int))] ?_
    obtain rfl:(8+(c6.toNat:Int))=r:=(Option.some.inj hf)
    exact ⟨_,rfl,rfl,H.scalar⟩
   ·rw [hb15]
    have p15:=of_decide_eq_false hb15
    refine Sg 7 [.op [1,1,1,1,0] 3,.co [1,1,1,1,1]] [(19,.int .i64 0),(21,.int .u8 (IntKind.u8.wrap (x_.toNat:Int)))] ?_
    rw [q8_u64 x_]
    obtain ⟨c7,h_c7,hf⟩:=bindE hf
    refine st (Ts (some 22) 9 ([0,1,2,2,3,3,3,3,4,4,4,4,4,4,4,4,5,5,5,5,5,5,5,5,5,5,5,5,5,5,5,5,6,6,6,6,6,6,6,6,6,6,6,6,6,6,6,6,6,6,6,6,6,6,6,6,6,6,6,6,6,6,6,6,7,7,7,7,7,7,7,7,7,7,7,7,7,7,7,7,7,7,7,7,7,7,7,7,7,7,7,7,7,7,7,7,7,7,7,7,7,7,7,7,7,7,7,7,7,7,7,7,7,7,7,7,7,7,7,7,7,7,7,7,7,7,7,7,8,8,8,8,8,8,8,8,8,8,8,8,8,8,8,8,8,8,8,8,8,8,8,8,8,8,8,8,8,8,8,8,8,8,8,8,8,8,8,8,8,8,8,8,8,8,8,8,8,8,8,8,8,8,8,8,8,8,8,8,8,8,8,8,8,8,8,8,8,8,8,8,8,8,8,8,8,8,8,8,8,8,8,8,8,8,8,8,8,8,8,8,8,8,8,8,8,8,8,8,8,8,8,8,8,8,8,8,8,8,8,8,8,8,8,8,8,8,8,8,8,8,8,8,8,8,8,8]:List UInt8) .u8 (x_.toUInt8.toNat:Int) c7 h_c7 ?_)
    refine Sg 4 [.co [1,1,1,1,1]] [(2,.int .i64 (IntKind.i64.wrap (0+(IntKind.i64.wrap (c7.toNat:Int)))))] ?_
    have:=c7.toNat_lt
    rw [show IntKind.i64.wrap (c7.toNat:Int)=(c7.toNat:Int) from w64 (by omega)]
    have:=c7.toNat_lt
    rw [show IntKind.i64.wrap (0+(c7.toNat:Int))=(0+(c7.toNat:Int)) from w64 (by omega)]
    refine Rr [2] [.int .i64 (0+(c7.toNat:Int))] ?_
    obtain rfl:(0+(c7.toNat:Int))=r:=(Option.some.inj hf)
    exact ⟨_,rfl,rfl,H.scalar⟩
theorem internal_strconv_log10Pow2_c {m:Mem} {w:World} (hm:Has m w) (x_:Int) :
  Calls Tryd.prog 57 #[.int .i64 x_] w fun e w' => ∃ v,e=.returned v ∧ v=.int .i64 (internal_strconv_log10Pow2 x_) ∧ Ex w w':=by
 generalize hf:internal_strconv_log10Pow2 x_=r
 unfold internal_strconv_log10Pow2 at hf
 have H:=St.start0 hm
 refine Fc Tryd.func57 ?_
 refine Sg 8 [.op [1,0] 2,.co [1,1]] [(4,.int .i64 (IntKind.i64.wrap (x_ * 78913)))] ?_
 refine st (runR (by kernel_rfl:fetch _ _ _ _ _=some ((some 5),vS (Op.shift .shr .i64 (IntKind.i64.wrap (x_ * 78913)) .u64 18))) (shrI_run _ _ (by decide)) ?_)
 refine Sg 2 [.co [1,1]] [(2,.int .i64 (shrI (IntKind.i64.wrap (x_ * 78913)) 18))] ?_
 refine Rr [2] [.int .i64 (shrI (IntKind.i64.wrap (x_ * 78913)) 18)] ?_
 obtain rfl:(shrI (IntKind.i64.wrap (x_ * 78913)) 18)=r:=hf
 exact ⟨_,rfl,rfl,H.scalar⟩
theorem internal_strconv_bool2_c {m:Mem} {w:World} (hm:Has m w) (b:Bool) :
  Calls Tryd.prog 59 #[.bool b] w fun e w' => ∃ v,e=.returned v ∧ v=.int .i64 (internal_strconv_bool2 b) ∧ Ex w w':=by
 generalize hf:internal_strconv_bool2 b=r
 unfold internal_strconv_bool2 at hf
 have H:=St.start0 hm
 refine Fc Tryd.func59 ?_
 refine Sg 9 [.co [1,0,1],.co [1,1]] [(3,.bool b)] ?_
 rcases condT hf with ⟨hb2,hf⟩ | ⟨hb2,hf⟩
 ·rw [hb2]
  refine Sg 5 [.co [1,0,1,0,1],.co [1,1]] [(2,.int .i64 1)] ?_
  refine Rr [2] [.int .i64 1] ?_
  obtain rfl:1=r:=hf
  exact ⟨_,rfl,rfl,H.scalar⟩
 ·rw [hb2]
  refine Sg 6 [.co [1,1,1]] [(2,.int .i64 0)] ?_
  refine Rr [2] [.int .i64 0] ?_
  obtain rfl:0=r:=hf
  exact ⟨_,rfl,rfl,H.scalar⟩
theorem internal_strconv_numDigits_c {m:Mem} {w:World} (hm:Has m w) (hG0:TabM m 0 (tab0.map fU64)) (d:UInt64) {r:Int} (hf:internal_strconv_numDigits d=some r) :
  Calls Tryd.prog 54 #[.int .u64 (d.toNat:Int)] w fun e w' => ∃ v,e=.returned v ∧ v=.int .i64 r ∧ Ex w w':=by
 unfold internal_strconv_numDigits at hf
 have H:=St.start0 hm
 refine Fc Tryd.func54 ?_
 refine Sg 7 [.op [1,0] 1,.co [1,1]] [(0,.int .u64 (d.toNat:Int)),(4,.int .u64 (d.toNat:Int))] ?_
 obtain ⟨len64,h_len64,hf⟩:=bindE hf
 refine st (Cl (some 5) 58 #[.int .u64 (d.toNat:Int)] Tryd.call58 (math_bits_Len64_c H.has d h_len64) ?_)
 rintro _ w1 ⟨rfl,hx1⟩
 replace H:=H.ex hx1
 refine st (Cl (some 6) 57 #[.int .i64 len64] Tryd.call57 (internal_strconv_log10Pow2_c H.has len64) ?_)
 rintro _ w2 ⟨rfl,hx2⟩
 replace H:=H.ex hx2
 refine Sg 7 [.op [1,1,0] 3,.co [1,1,1]] [(7,.int .i64 (internal_strconv_log10Pow2 len64)),(8,.int .u64 (d.toNat:Int)),(9,.int .i64 (internal_strconv_log10Pow2 len64))] ?_
 obtain ⟨x_,h_x_,hf⟩:=bindE hf
 obtain ⟨i03,i13,ix3⟩:=idx_some h_x_
 refine st (idxAS (some 10) 92 20 83 0 .i64 (internal_strconv_log10Pow2 len64) (by kernel_rfl) (by kernel_rfl) i03 i13 ?_)
 refine st (Lr (some 11) 83 (⟨0,(internal_strconv_log10Pow2 len64).toNat,none⟩) (.int .u64 (x_.toNat:Int)) (H.cellI (hG0.at_ ix3)) ?_)
 refine Sg 1 [.op [1,1,0] 6,.co [1,1,1]] [(7,.int .i64 (internal_strconv_log10Pow2 len64)),(12,.bool (decide ((d.toNat:Int) ≥ (x_.toNat:Int))))] ?_
 refine st (Cl (some 13) 59 #[.bool (decide ((d.toNat:Int) ≥ (x_.toNat:Int)))] Tryd.call59 (internal_strconv_bool2_c H.has (decide ((d.toNat:Int) ≥ (x_.toNat:Int)))) ?_)
 rintro _ w4 ⟨rfl,hx4⟩
 replace H:=H.ex hx4
 refine Sg 3 [.co [1,1,1]] [(2,.int .i64 (IntKind.i64.wrap ((internal_strconv_log10Pow2 len64)+(internal_strconv_bool2 (decide ((d.toNat:Int) ≥ (x_.toNat:Int)))))))] ?_
 refine Rr [2] [.int .i64 (IntKind.i64.wrap ((internal_strconv_log10Pow2 len64)+(internal_strconv_bool2 (decide ((d.toNat:Int) ≥ (x_.toNat:Int))))))] ?_
 obtain rfl:(IntKind.i64.wrap ((internal_strconv_log10Pow2 len64)+(internal_strconv_bool2 (decide ((d.toNat:Int) ≥ (x_.toNat:Int))))))=r:=(Option.some.inj hf)
 exact ⟨_,rfl,rfl,H.scalar⟩
end Go.Proofs.YtebbaokcgnjfiaaDoor.F
