import Derived.Test.YtebbaokcgnjfiaaDoorM5
import Derived.Test.YtebbaokcgnjfiaaDoorM8
set_option linter.unusedVariables false
set_option linter.unusedSimpArgs false
namespace Go.Proofs.YtebbaokcgnjfiaaDoor.K
open Go Go.RowKit
structure TApiAttr where
 Name:(List UInt8)
 Value:(List UInt8)
 deriving DecidableEq
def rApiAttr:Rep TApiAttr where
 sz:=2
 im m cs x:=∃ A1 c1,cs=[.string ⟨x.Name.toArray⟩,.slice A1 x.Value.length c1] ∧ x.Name.length ≤ 9223372036854775807 ∧ SlI rU8 m A1 c1 x.Value
 wf x:=rStr.wf x.Name ∧ (rSl rU8).wf x.Value
 mono hs:=fun ⟨A1,c1,h,s0,s1⟩ => ⟨A1,c1,h,s0,s1.mono hs⟩
 len:=fun ⟨A1,c1,h,s0,s1⟩ => by rw [h]; rfl
 one:=fun ⟨A1,c1,h,s0,s1⟩ => by rw [h]; intro u hu; simp only [List.mem_cons,List.mem_nil_iff,or_false] at hu; rcases hu with rfl | rfl <;> rfl
structure TApiEntry where
 Path:(List UInt8)
 Kind:Int
 Mode:Int
 Uid:Int
 Gid:Int
 Time:Int
 Size:Int
 Data:(List UInt8)
 Target:(List UInt8)
 Dev:Int
 Attrs:(List TApiAttr)
 deriving DecidableEq
def rApiEntry:Rep TApiEntry where
 sz:=11
 im m cs x:=∃ A7 c7,∃ A10 c10,cs=[.string ⟨x.Path.toArray⟩,.int .i64 x.Kind,.int .i64 x.Mode,.int .i64 x.Uid,.int .i64 x.Gid,.int .i64 x.Time,.int .i64 x.Size,.slice A7 x.Data.length c7,.string ⟨x.Target.toArray⟩,.int .i64 x.Dev,.slice A10 x.Attrs.length c10] ∧ x.Path.length ≤ 9223372036854775807 ∧ SlI rU8 m A7 c7 x.Data ∧ x.Target.length ≤ 9223372036854775807 ∧ SlI rApiAttr m A10 c10 x.Attrs
 wf x:=rStr.wf x.Path ∧ rI64.wf x.Kind ∧ rI64.wf x.Mode ∧ rI64.wf x.Uid ∧ rI64.wf x.Gid ∧ rI64.wf x.Time ∧ rI64.wf x.Size ∧ (rSl rU8).wf x.Data ∧ rStr.wf x.Target ∧ rI64.wf x.Dev ∧ (rSl rApiAttr).wf x.Attrs
 mono hs:=fun ⟨A7,c7,A10,c10,h,s0,s7,s8,s10⟩ => ⟨A7,c7,A10,c10,h,s0,s7.mono hs,s8,s10.mono hs⟩
 len:=fun ⟨A7,c7,A10,c10,h,s0,s7,s8,s10⟩ => by rw [h]; rfl
 one:=fun ⟨A7,c7,A10,c10,h,s0,s7,s8,s10⟩ => by rw [h]; intro u hu; simp only [List.mem_cons,List.mem_nil_iff,or_false] at hu; rcases hu with rfl | rfl | rfl | rfl | rfl | rfl | rfl | rfl | rfl | rfl | rfl <;> rfl
structure TManifestText where
 f_b:(List UInt8)
 f_at:Int
 f_e:Int
 deriving DecidableEq
def rManifestText:Rep TManifestText where
 sz:=3
 im m cs x:=∃ A0 c0,cs=[.slice A0 x.f_b.length c0,.int .i64 x.f_at,.int .i64 x.f_e] ∧ SlI rU8 m A0 c0 x.f_b
 wf x:=(rSl rU8).wf x.f_b ∧ rI64.wf x.f_at ∧ rI64.wf x.f_e
 mono hs:=fun ⟨A0,c0,h,s0⟩ => ⟨A0,c0,h,s0.mono hs⟩
 len:=fun ⟨A0,c0,h,s0⟩ => by rw [h]; rfl
 one:=fun ⟨A0,c0,h,s0⟩ => by rw [h]; intro u hu; simp only [List.mem_cons,List.mem_nil_iff,or_false] at hu; rcases hu with rfl | rfl | rfl <;> rfl
structure TManifestReader where
 f_text:TManifestText
 f_l:(List TApiEntry)
 f_full:Bool
 f_more:Bool
 deriving DecidableEq
def rManifestReader:Rep TManifestReader where
 sz:=6
 im m cs x:=∃ A0 c0,∃ A3 c3,cs=[.slice A0 x.f_text.f_b.length c0,.int .i64 x.f_text.f_at,.int .i64 x.f_text.f_e,.slice A3 x.f_l.length c3,.bool x.f_full,.bool x.f_more] ∧ SlI rU8 m A0 c0 x.f_text.f_b ∧ SlI rApiEntry m A3 c3 x.f_l
 wf x:=rManifestText.wf x.f_text ∧ (rSl rApiEntry).wf x.f_l ∧ rBool.wf x.f_full ∧ rBool.wf x.f_more
 mono hs:=fun ⟨A0,c0,A3,c3,h,s0,s3⟩ => ⟨A0,c0,A3,c3,h,s0.mono hs,s3.mono hs⟩
 len:=fun ⟨A0,c0,A3,c3,h,s0,s3⟩ => by rw [h]; rfl
 one:=fun ⟨A0,c0,A3,c3,h,s0,s3⟩ => by rw [h]; intro u hu; simp only [List.mem_cons,List.mem_nil_iff,or_false] at hu; rcases hu with rfl | rfl | rfl | rfl | rfl | rfl <;> rfl
def oApiEntry:ORep TApiEntry:=oOf (β:=Option Addr × Nat × Option Addr × Nat) rApiEntry (fun b x => [rowI rU8 5 b.1 b.2.1 x.Data,rowI rApiAttr 46 b.2.2.1 b.2.2.2 x.Attrs])
 (fun b x => [.string ⟨x.Path.toArray⟩,.int .i64 x.Kind,.int .i64 x.Mode,.int .i64 x.Uid,.int .i64 x.Gid,.int .i64 x.Time,.int .i64 x.Size,.slice b.1 x.Data.length b.2.1,.string ⟨x.Target.toArray⟩,.int .i64 x.Dev,.slice b.2.2.1 x.Attrs.length b.2.2.2]) (fun x => x.Path.length ≤ 9223372036854775807 ∧ x.Target.length ≤ 9223372036854775807)
 (fun b x => rfl) (fun b x u hu => by simp only [List.mem_cons,List.mem_nil_iff,or_false] at hu; rcases hu with rfl | rfl | rfl | rfl | rfl | rfl | rfl | rfl | rfl | rfl | rfl <;> rfl)
 (fun b x m m1 w F hf hs hsub hm => by
  obtain ⟨q0,q8⟩:=hf
  obtain ⟨F0,G0,i7,hs,_,v0⟩:=hs
  obtain ⟨F1,G1,i10,hs,_,v1⟩:=hs
  exact ⟨b.1,b.2.1,b.2.2.1,b.2.2.2,rfl,q0,(rowI_fix i7 hsub (fun k hk => hm k ((v0 k).2 (.inl hk)))),q8,(rowI_fix i10 hsub (fun k hk => hm k ((v0 k).2 (.inr ((v1 k).2 (.inl hk))))))⟩)
theorem oApiEntry_open {w0:World} {F0:Nat → Prop} {m0 m:Mem} {σ:List Item} {w:World} {x:TApiEntry} {cs:List Value} (H:St w0 F0 m0 m (oApiEntry.it cs x :: σ) w):∃ (A7:Option Addr) (c7:Nat) (A10:Option Addr) (c10:Nat),cs=[.string ⟨x.Path.toArray⟩,.int .i64 x.Kind,.int .i64 x.Mode,.int .i64 x.Uid,.int .i64 x.Gid,.int .i64 x.Time,.int .i64 x.Size,.slice A7 x.Data.length c7,.string ⟨x.Target.toArray⟩,.int .i64 x.Dev,.slice A10 x.Attrs.length c10] ∧ (x.Path.length ≤ 9223372036854775807 ∧ x.Target.length ≤ 9223372036854775807) ∧ St w0 F0 m0 m (rowI rU8 5 A7 c7 x.Data :: rowI rApiAttr 46 A10 c10 x.Attrs :: σ) w:=by
 obtain ⟨⟨A7,c7,A10,c10⟩,h1,h2,h3⟩:=St.ofO H
 exact ⟨A7,c7,A10,c10,h1,h2,h3⟩
theorem oApiEntry_close {w0:World} {F0:Nat → Prop} {m0 m:Mem} {σ:List Item} {w:World} {x:TApiEntry} {A7:Option Addr} {c7:Nat} {A10:Option Addr} {c10:Nat} (hf:x.Path.length ≤ 9223372036854775807 ∧ x.Target.length ≤ 9223372036854775807) (H:St w0 F0 m0 m (rowI rU8 5 A7 c7 x.Data :: rowI rApiAttr 46 A10 c10 x.Attrs :: σ) w):St w0 F0 m0 m (oApiEntry.it [.string ⟨x.Path.toArray⟩,.int .i64 x.Kind,.int .i64 x.Mode,.int .i64 x.Uid,.int .i64 x.Gid,.int .i64 x.Time,.int .i64 x.Size,.slice A7 x.Data.length c7,.string ⟨x.Target.toArray⟩,.int .i64 x.Dev,.slice A10 x.Attrs.length c10] x :: σ) w:=St.toO (A7,c7,A10,c10) hf H
end Go.Proofs.YtebbaokcgnjfiaaDoor.K
namespace Go.Proofs.YtebbaokcgnjfiaaDoor.F
open Go Go.RowKit Go.Proofs.YtebbaokcgnjfiaaDoor.K
def tab0:List UInt64:=[1,10,100,1000,10000,100000,1000000,10000000,100000000,1000000000,10000000000,100000000000,1000000000000,10000000000000,100000000000000,1000000000000000,10000000000000000,100000000000000000,1000000000000000000,10000000000000000000]
def tab2:List UInt8:=[0,1,56,2,57,49,28,3,61,58,42,50,38,29,17,4,62,47,59,36,45,43,51,22,53,39,33,30,24,18,12,5,63,55,48,27,60,41,37,16,46,35,44,21,52,32,23,11,54,26,40,15,34,20,31,10,25,14,19,9,13,8,7,6]
noncomputable def ref11_Much_l2 (x_:TApiEntry) (sum1:Int) (k:Nat):Option (Sum (Int × Nat) (Sum Int (Sum (Int × Nat) (Sum Unit Bool)))) :=
 cond (decide ((k:Int) < (x_.Attrs.length:Int)))
 (Option.bind (x_.Attrs[k]?) fun x_1 =>
 cond (decide ((x_1.Name.length:Int) > 300))
 (some (.inr (.inr (.inr (.inr true)))))
 (cond (decide ((x_1.Value.length:Int) > 5000))
 (some (.inr (.inr (.inr (.inr true)))))
 (cond (decide ((IntKind.i64.wrap ((IntKind.i64.wrap (sum1+(x_1.Name.length:Int)))+(x_1.Value.length:Int))) > 1000000))
 (some (.inr (.inr (.inr (.inr true)))))
 (some (.inl ((IntKind.i64.wrap ((IntKind.i64.wrap (sum1+(x_1.Name.length:Int)))+(x_1.Value.length:Int))),(k+1)))))))
 (some (.inr (.inl sum1)))
noncomputable def ref11_Much_l1 (l_:(List TApiEntry)) (sum:Int) (i:Nat):Option (Sum (Int × Nat) (Sum Unit Bool)) :=
 cond (decide ((i:Int) < (l_.length:Int)))
 (Option.bind (l_[i]?) fun x_ =>
 cond (decide ((x_.Data.length:Int) > 70000))
 (some (.inr (.inr true)))
 (cond (decide ((x_.Path.length:Int) > 5000))
 (some (.inr (.inr true)))
 (cond (decide ((x_.Target.length:Int) > 5000))
 (some (.inr (.inr true)))
 (cond (decide ((x_.Attrs.length:Int) > 70))
 (some (.inr (.inr true)))
 (bnd
 (loopO (fun s => ref11_Much_l2 x_ s.1 s.2) (sum,0)) fun sum1 =>
 some (.inl (sum1,(i+1))))))))
 (some (.inr (.inl ())))
noncomputable def ref11_Much (l_:(List TApiEntry)):Option Bool :=
 cond (decide ((l_.length:Int) > 40))
 (some true)
 (bnd
 (loopO (fun s => ref11_Much_l1 l_ s.1 s.2) (0,0)) fun _ =>
 some false)
def manifest_between (n_:Int) (low:Int) (high:Int):Bool :=
 cond (decide (n_ ≥ low))
 ((decide (n_ ≤ high)))
 (false)
def manifest_right (x_:TApiEntry):Bool :=
 cond (manifest_between x_.Kind 1 6)
 (cond (x_.Kind == 6)
 (true)
 (lt_
 (cond (manifest_between x_.Mode 0 1099511627776)
 (cond (manifest_between x_.Uid 0 1099511627776)
 (cond (manifest_between x_.Gid 0 1099511627776)
 ((manifest_between x_.Time 0 1099511627776))
 (false))
 (false))
 (false)) fun ok =>
 cond (x_.Kind == 1)
 (cond ok
 ((manifest_between x_.Size 0 1099511627776))
 (false))
 (cond (x_.Kind == 4)
 (cond ok
 ((manifest_between x_.Dev 0 1099511627776))
 (false))
 (cond (x_.Kind == 5)
 (cond ok
 ((manifest_between x_.Dev 0 1099511627776))
 (false))
 (ok)))))
 (false)
noncomputable def manifest_tooLong_l1 (x_:TApiEntry) (left:Int) (t:Nat):Option (Sum (Int × Nat) (Sum Unit Bool)) :=
 cond (decide ((t:Int) < (x_.Attrs.length:Int)))
 (Option.bind (x_.Attrs[t]?) fun x_1 =>
 cond (decide ((x_1.Name.length:Int) > left))
 (some (.inr (.inr true)))
 (cond (decide ((x_1.Value.length:Int) > (IntKind.i64.wrap (left - (x_1.Name.length:Int)))))
 (some (.inr (.inr true)))
 (some (.inl ((IntKind.i64.wrap (left - (IntKind.i64.wrap ((x_1.Name.length:Int)+(x_1.Value.length:Int))))),(t+1))))))
 (some (.inr (.inl ())))
noncomputable def manifest_tooLong_l2 (x_:TApiEntry) (left1:Int) (t1:Nat):Option (Sum (Int × Nat) (Sum Unit Bool)) :=
 cond (decide ((t1:Int) < (x_.Attrs.length:Int)))
 (Option.bind (x_.Attrs[t1]?) fun x_2 =>
 cond (decide ((x_2.Name.length:Int) > left1))
 (some (.inr (.inr true)))
 (cond (decide ((x_2.Value.length:Int) > (IntKind.i64.wrap (left1 - (x_2.Name.length:Int)))))
 (some (.inr (.inr true)))
 (some (.inl ((IntKind.i64.wrap (left1 - (IntKind.i64.wrap ((x_2.Name.length:Int)+(x_2.Value.length:Int))))),(t1+1))))))
 (some (.inr (.inl ())))
noncomputable def manifest_tooLong_l3 (x_:TApiEntry):Option (Sum Unit (Sum Unit Bool)) :=
 cond (decide (0 < (x_.Attrs.length:Int)))
 (Option.bind (x_.Attrs[0]?) fun x_3 =>
 some (.inr (.inr false)))
 (some (.inr (.inl ())))
noncomputable def manifest_tooLong_l4 (x_:TApiEntry) (left2:Int) (t2:Nat):Option (Sum (Int × Nat) (Sum Unit Bool)) :=
 cond (decide ((t2:Int) < (x_.Attrs.length:Int)))
 (Option.bind (x_.Attrs[t2]?) fun x_4 =>
 cond (decide ((x_4.Name.length:Int) > left2))
 (some (.inr (.inr true)))
 (cond (decide ((x_4.Value.length:Int) > (IntKind.i64.wrap (left2 - (x_4.Name.length:Int)))))
 (some (.inr (.inr true)))
 (some (.inl ((IntKind.i64.wrap (left2 - (IntKind.i64.wrap ((x_4.Name.length:Int)+(x_4.Value.length:Int))))),(t2+1))))))
 (some (.inr (.inl ())))
noncomputable def manifest_tooLong (x_:TApiEntry):Option Bool :=
 cond (decide ((x_.Path.length:Int) > 1048576))
 (some true)
 (cond (x_.Kind == 1)
 (cond (decide ((x_.Data.length:Int) > 1048576))
 (some true)
 (bnd
 (loopO (fun s => manifest_tooLong_l1 x_ s.1 s.2) (1048576,0)) fun _ =>
 some false))
 (cond (x_.Kind == 3)
 (cond (decide ((x_.Target.length:Int) > 1048576))
 (some true)
 (bnd
 (loopO (fun s => manifest_tooLong_l2 x_ s.1 s.2) (1048576,0)) fun _ =>
 some false))
 (cond (x_.Kind == 6)
 (cond (decide ((x_.Target.length:Int) > 1048576))
 (some true)
 (bnd
 (loopO (fun s => manifest_tooLong_l3 x_) ()) fun _ =>
 some false))
 (bnd
 (loopO (fun s => manifest_tooLong_l4 x_ s.1 s.2) (1048576,0)) fun _ =>
 some false))))
noncomputable def internal_strconv_small (i:Int):Option (List UInt8) :=
 cond (decide (i < 10))
 (Option.bind (slc ([48,49,50,51,52,53,54,55,56,57,97,98,99,100,101,102,103,104,105,106,107,108,109,110,111,112,113,114,115,116,117,118,119,120,121,122]:List UInt8) i (IntKind.i64.wrap (i+1))) fun y_ =>
 some y_)
 (Option.bind (slc ([48,48,48,49,48,50,48,51,48,52,48,53,48,54,48,55,48,56,48,57,49,48,49,49,49,50,49,51,49,52,49,53,49,54,49,55,49,56,49,57,50,48,50,49,50,50,50,51,50,52,50,53,50,54,50,55,50,56,50,57,51,48,51,49,51,50,51,51,51,52,51,53,51,54,51,55,51,56,51,57,52,48,52,49,52,50,52,51,52,52,52,53,52,54,52,55,52,56,52,57,53,48,53,49,53,50,53,51,53,52,53,53,53,54,53,55,53,56,53,57,54,48,54,49,54,50,54,51,54,52,54,53,54,54,54,55,54,56,54,57,55,48,55,49,55,50,55,51,55,52,55,53,55,54,55,55,55,56,55,57,56,48,56,49,56,50,56,51,56,52,56,53,56,54,56,55,56,56,56,57,57,48,57,49,57,50,57,51,57,52,57,53,57,54,57,55,57,56,57,57]:List UInt8) (IntKind.i64.wrap (i * 2)) (IntKind.i64.wrap ((IntKind.i64.wrap (i * 2))+2))) fun y_1 =>
 some y_1)
noncomputable def math_bits_Len64 (x_:UInt64):Option Int :=
 cond (decide ((x_.toNat:Int) ≥ 4294967296))
 (cond (decide (((shr64 x_ 32).toNat:Int) ≥ 65536))
 (cond (decide (((shr64 (shr64 x_ 32) 16).toNat:Int) ≥ 256))
 (Option.bind (idx ([0,1,2,2,3,3,3,3,4,4,4,4,4,4,4,4,5,5,5,5,5,5,5,5,5,5,5,5,5,5,5,5,6,6,6,6,6,6,6,6,6,6,6,6,6,6,6,6,6,6,6,6,6,6,6,6,6,6,6,6,6,6,6,6,7,7,7,7,7,7,7,7,7,7,7,7,7,7,7,7,7,7,7,7,7,7,7,7,7,7,7,7,7,7,7,7,7,7,7,7,7,7,7,7,7,7,7,7,7,7,7,7,7,7,7,7,7,7,7,7,7,7,7,7,7,7,7,7,8,8,8,8,8,8,8,8,8,8,8,8,8,8,8,8,8,8,8,8,8,8,8,8,8,8,8,8,8,8,8,8,8,8,8,8,8,8,8,8,8,8,8,8,8,8,8,8,8,8,8,8,8,8,8,8,8,8,8,8,8,8,8,8,8,8,8,8,8,8,8,8,8,8,8,8,8,8,8,8,8,8,8,8,8,8,8,8,8,8,8,8,8,8,8,8,8,8,8,8,8,8,8,8,8,8,8,8,8,8,8,8,8,8,8,8,8,8,8,8,8,8,8,8,8,8,8,8]:List UInt8) (((shr64 (shr64 (shr64 x_ 32) 16) 8).toUInt8).toNat:Int)) fun c =>
 some (56+(c.toNat:Int)))
 (Option.bind (idx ([0,1,2,2,3,3,3,3,4,4,4,4,4,4,4,4,5,5,5,5,5,5,5,5,5,5,5,5,5,5,5,5,6,6,6,6,6,6,6,6,6,6,6,6,6,6,6,6,6,6,6,6,6,6,6,6,6,6,6,6,6,6,6,6,7,7,7,7,7,7,7,7,7,7,7,7,7,7,7,7,7,7,7,7,7,7,7,7,7,7,7,7,7,7,7,7,7,7,7,7,7,7,7,7,7,7,7,7,7,7,7,7,7,7,7,7,7,7,7,7,7,7,7,7,7,7,7,7,8,8,8,8,8,8,8,8,8,8,8,8,8,8,8,8,8,8,8,8,8,8,8,8,8,8,8,8,8,8,8,8,8,8,8,8,8,8,8,8,8,8,8,8,8,8,8,8,8,8,8,8,8,8,8,8,8,8,8,8,8,8,8,8,8,8,8,8,8,8,8,8,8,8,8,8,8,8,8,8,8,8,8,8,8,8,8,8,8,8,8,8,8,8,8,8,8,8,8,8,8,8,8,8,8,8,8,8,8,8,8,8,8,8,8,8,8,8,8,8,8,8,8,8,8,8,8,8]:List UInt8) (((shr64 (shr64 x_ 32) 16).toUInt8).toNat:Int)) fun c1 =>
 some (48+(c1.toNat:Int))))
 (cond (decide (((shr64 x_ 32).toNat:Int) ≥ 256))
 (Option.bind (idx ([0,1,2,2,3,3,3,3,4,4,4,4,4,4,4,4,5,5,5,5,5,5,5,5,5,5,5,5,5,5,5,5,6,6,6,6,6,6,6,6,6,6,6,6,6,6,6,6,6,6,6,6,6,6,6,6,6,6,6,6,6,6,6,6,7,7,7,7,7,7,7,7,7,7,7,7,7,7,7,7,7,7,7,7,7,7,7,7,7,7,7,7,7,7,7,7,7,7,7,7,7,7,7,7,7,7,7,7,7,7,7,7,7,7,7,7,7,7,7,7,7,7,7,7,7,7,7,7,8,8,8,8,8,8,8,8,8,8,8,8,8,8,8,8,8,8,8,8,8,8,8,8,8,8,8,8,8,8,8,8,8,8,8,8,8,8,8,8,8,8,8,8,8,8,8,8,8,8,8,8,8,8,8,8,8,8,8,8,8,8,8,8,8,8,8,8,8,8,8,8,8,8,8,8,8,8,8,8,8,8,8,8,8,8,8,8,8,8,8,8,8,8,8,8,8,8,8,8,8,8,8,8,8,8,8,8,8,8,8,8,8,8,8,8,8,8,8,8,8,8,8,8,8,8,8,8]:List UInt8) (((shr64 (shr64 x_ 32) 8).toUInt8).toNat:Int)) fun c2 =>
 some (40+(c2.toNat:Int)))
 (Option.bind (idx ([0,1,2,2,3,3,3,3,4,4,4,4,4,4,4,4,5,5,5,5,5,5,5,5,5,5,5,5,5,5,5,5,6,6,6,6,6,6,6,6,6,6,6,6,6,6,6,6,6,6,6,6,6,6,6,6,6,6,6,6,6,6,6,6,7,7,7,7,7,7,7,7,7,7,7,7,7,7,7,7,7,7,7,7,7,7,7,7,7,7,7,7,7,7,7,7,7,7,7,7,7,7,7,7,7,7,7,7,7,7,7,7,7,7,7,7,7,7,7,7,7,7,7,7,7,7,7,7,8,8,8,8,8,8,8,8,8,8,8,8,8,8,8,8,8,8,8,8,8,8,8,8,8,8,8,8,8,8,8,8,8,8,8,8,8,8,8,8,8,8,8,8,8,8,8,8,8,8,8,8,8,8,8,8,8,8,8,8,8,8,8,8,8,8,8,8,8,8,8,8,8,8,8,8,8,8,8,8,8,8,8,8,8,8,8,8,8,8,8,8,8,8,8,8,8,8,8,8,8,8,8,8,8,8,8,8,8,8,8,8,8,8,8,8,8,8,8,8,8,8,8,8,8,8,8,8]:List UInt8) (((shr64 x_ 32).toUInt8).toNat:Int)) fun c3 =>
 some (32+(c3.toNat:Int)))))
 (cond (decide ((x_.toNat:Int) ≥ 65536))
 (cond (decide (((shr64 x_ 16).toNat:Int) ≥ 256))
 (Option.bind (idx ([0,1,2,2,3,3,3,3,4,4,4,4,4,4,4,4,5,5,5,5,5,5,5,5,5,5,5,5,5,5,5,5,6,6,6,6,6,6,6,6,6,6,6,6,6,6,6,6,6,6,6,6,6,6,6,6,6,6,6,6,6,6,6,6,7,7,7,7,7,7,7,7,7,7,7,7,7,7,7,7,7,7,7,7,7,7,7,7,7,7,7,7,7,7,7,7,7,7,7,7,7,7,7,7,7,7,7,7,7,7,7,7,7,7,7,7,7,7,7,7,7,7,7,7,7,7,7,7,8,8,8,8,8,8,8,8,8,8,8,8,8,8,8,8,8,8,8,8,8,8,8,8,8,8,8,8,8,8,8,8,8,8,8,8,8,8,8,8,8,8,8,8,8,8,8,8,8,8,8,8,8,8,8,8,8,8,8,8,8,8,8,8,8,8,8,8,8,8,8,8,8,8,8,8,8,8,8,8,8,8,8,8,8,8,8,8,8,8,8,8,8,8,8,8,8,8,8,8,8,8,8,8,8,8,8,8,8,8,8,8,8,8,8,8,8,8,8,8,8,8,8,8,8,8,8,8]:List UInt8) (((shr64 (shr64 x_ 16) 8).toUInt8).toNat:Int)) fun c4 =>
 some (24+(c4.toNat:Int)))
 (Option.bind (idx ([0,1,2,2,3,3,3,3,4,4,4,4,4,4,4,4,5,5,5,5,5,5,5,5,5,5,5,5,5,5,5,5,6,6,6,6,6,6,6,6,6,6,6,6,6,6,6,6,6,6,6,6,6,6,6,6,6,6,6,6,6,6,6,6,7,7,7,7,7,7,7,7,7,7,7,7,7,7,7,7,7,7,7,7,7,7,7,7,7,7,7,7,7,7,7,7,7,7,7,7,7,7,7,7,7,7,7,7,7,7,7,7,7,7,7,7,7,7,7,7,7,7,7,7,7,7,7,7,8,8,8,8,8,8,8,8,8,8,8,8,8,8,8,8,8,8,8,8,8,8,8,8,8,8,8,8,8,8,8,8,8,8,8,8,8,8,8,8,8,8,8,8,8,8,8,8,8,8,8,8,8,8,8,8,8,8,8,8,8,8,8,8,8,8,8,8,8,8,8,8,8,8,8,8,8,8,8,8,8,8,8,8,8,8,8,8,8,8,8,8,8,8,8,8,8,8,8,8,8,8,8,8,8,8,8,8,8,8,8,8,8,8,8,8,8,8,8,8,8,8,8,8,8,8,8,8]:List UInt8) (((shr64 x_ 16).toUInt8).toNat:Int)) fun c5 =>
 some (16+(c5.toNat:Int))))
 (cond (decide ((x_.toNat:Int) ≥ 256))
 (Option.bind (idx ([0,1,2,2,3,3,3,3,4,4,4,4,4,4,4,4,5,5,5,5,5,5,5,5,5,5,5,5,5,5,5,5,6,6,6,6,6,6,6,6,6,6,6,6,6,6,6,6,6,6,6,6,6,6,6,6,6,6,6,6,6,6,6,6,7,7,7,7,7,7,7,7,7,7,7,7,7,7,7,7,7,7,7,7,7,7,7,7,7,7,7,7,7,7,7,7,7,7,7,7,7,7,7,7,7,7,7,7,7,7,7,7,7,7,7,7,7,7,7,7,7,7,7,7,7,7,7,7,8,8,8,8,8,8,8,8,8,8,8,8,8,8,8,8,8,8,8,8,8,8,8,8,8,8,8,8,8,8,8,8,8,8,8,8,8,8,8,8,8,8,8,8,8,8,8,8,8,8,8,8,8,8,8,8,8,8,8,8,8,8,8,8,8,8,8,8,8,8,8,8,8,8,8,8,8,8,8,8,8,8,8,8,8,8,8,8,8,8,8,8,8,8,8,8,8,8,8,8,8,8,8,8,8,8,8,8,8,8,8,8,8,8,8,8,8,8,8,8,8,8,8,8,8,8,8,8]:List UInt8) (((shr64 x_ 8).toUInt8).toNat:Int)) fun c6 =>
 some (8+(c6.toNat:Int)))
 (Option.bind (idx ([0,1,2,2,3,3,3,3,4,4,4,4,4,4,4,4,5,5,5,5,5,5,5,5,5,5,5,5,5,5,5,5,6,6,6,6,6,6,6,6,6,6,6,6,6,6,6,6,6,6,6,6,6,6,6,6,6,6,6,6,6,6,6,6,7,7,7,7,7,7,7,7,7,7,7,7,7,7,7,7,7,7,7,7,7,7,7,7,7,7,7,7,7,7,7,7,7,7,7,7,7,7,7,7,7,7,7,7,7,7,7,7,7,7,7,7,7,7,7,7,7,7,7,7,7,7,7,7,8,8,8,8,8,8,8,8,8,8,8,8,8,8,8,8,8,8,8,8,8,8,8,8,8,8,8,8,8,8,8,8,8,8,8,8,8,8,8,8,8,8,8,8,8,8,8,8,8,8,8,8,8,8,8,8,8,8,8,8,8,8,8,8,8,8,8,8,8,8,8,8,8,8,8,8,8,8,8,8,8,8,8,8,8,8,8,8,8,8,8,8,8,8,8,8,8,8,8,8,8,8,8,8,8,8,8,8,8,8,8,8,8,8,8,8,8,8,8,8,8,8,8,8,8,8,8,8]:List UInt8) (x_.toUInt8.toNat:Int)) fun c7 =>
 some (0+(c7.toNat:Int)))))
def internal_strconv_log10Pow2 (x_:Int):Int :=
 (shrI (IntKind.i64.wrap (x_ * 78913)) 18)
def internal_strconv_bool2 (b:Bool):Int :=
 cond b
 (1)
 (0)
noncomputable def internal_strconv_numDigits (d:UInt64):Option Int :=
 Option.bind (math_bits_Len64 d) fun len64 =>
 Option.bind (idx tab0 (internal_strconv_log10Pow2 len64)) fun x_ =>
 some (IntKind.i64.wrap ((internal_strconv_log10Pow2 len64)+(internal_strconv_bool2 (decide ((d.toNat:Int) ≥ (x_.toNat:Int))))))
noncomputable def internal_strconv_formatBase10_l1 (len:Nat) (a1:(List UInt8)) (u1:UInt64) (nd:Int):Option (Sum ((List UInt8) × UInt64 × Int) ((List UInt8) × UInt64 × Int)) :=
 cond (decide (nd ≥ 8))
 (Option.bind (idx ([48,48,48,49,48,50,48,51,48,52,48,53,48,54,48,55,48,56,48,57,49,48,49,49,49,50,49,51,49,52,49,53,49,54,49,55,49,56,49,57,50,48,50,49,50,50,50,51,50,52,50,53,50,54,50,55,50,56,50,57,51,48,51,49,51,50,51,51,51,52,51,53,51,54,51,55,51,56,51,57,52,48,52,49,52,50,52,51,52,52,52,53,52,54,52,55,52,56,52,57,53,48,53,49,53,50,53,51,53,52,53,53,53,54,53,55,53,56,53,57,54,48,54,49,54,50,54,51,54,52,54,53,54,54,54,55,54,56,54,57,55,48,55,49,55,50,55,51,55,52,55,53,55,54,55,55,55,56,55,57,56,48,56,49,56,50,56,51,56,52,56,53,56,54,56,55,56,56,56,57,57,48,57,49,57,50,57,51,57,52,57,53,57,54,57,55,57,56,57,57]:List UInt8) ((UInt32.ofInt (((UInt32.ofInt ((Int.tmod (Int.tmod ((UInt32.ofInt ((u1 % (100000000:UInt64)).toNat:Int)).toNat:Int) 10000) 100) * 2)).toNat:Int)+1)).toNat:Int)) fun c =>
 Option.bind (idx ([48,48,48,49,48,50,48,51,48,52,48,53,48,54,48,55,48,56,48,57,49,48,49,49,49,50,49,51,49,52,49,53,49,54,49,55,49,56,49,57,50,48,50,49,50,50,50,51,50,52,50,53,50,54,50,55,50,56,50,57,51,48,51,49,51,50,51,51,51,52,51,53,51,54,51,55,51,56,51,57,52,48,52,49,52,50,52,51,52,52,52,53,52,54,52,55,52,56,52,57,53,48,53,49,53,50,53,51,53,52,53,53,53,54,53,55,53,56,53,57,54,48,54,49,54,50,54,51,54,52,54,53,54,54,54,55,54,56,54,57,55,48,55,49,55,50,55,51,55,52,55,53,55,54,55,55,55,56,55,57,56,48,56,49,56,50,56,51,56,52,56,53,56,54,56,55,56,56,56,57,57,48,57,49,57,50,57,51,57,52,57,53,57,54,57,55,57,56,57,57]:List UInt8) ((UInt32.ofInt ((Int.tmod (Int.tmod ((UInt32.ofInt ((u1 % (100000000:UInt64)).toNat:Int)).toNat:Int) 10000) 100) * 2)).toNat:Int)) fun c1 =>
 Option.bind (idx a1 (IntKind.i64.wrap (nd - 1))) fun x_ =>
 Option.bind (chk (decide ((IntKind.i64.wrap (nd - 1)) < (len:Int)))) fun _ =>
 Option.bind (idx (a1.set ((IntKind.i64.wrap (nd - 1)).toNat) c) (IntKind.i64.wrap (nd - 2))) fun x_1 =>
 Option.bind (chk (decide ((IntKind.i64.wrap (nd - 2)) < (len:Int)))) fun _ =>
 Option.bind (idx ([48,48,48,49,48,50,48,51,48,52,48,53,48,54,48,55,48,56,48,57,49,48,49,49,49,50,49,51,49,52,49,53,49,54,49,55,49,56,49,57,50,48,50,49,50,50,50,51,50,52,50,53,50,54,50,55,50,56,50,57,51,48,51,49,51,50,51,51,51,52,51,53,51,54,51,55,51,56,51,57,52,48,52,49,52,50,52,51,52,52,52,53,52,54,52,55,52,56,52,57,53,48,53,49,53,50,53,51,53,52,53,53,53,54,53,55,53,56,53,57,54,48,54,49,54,50,54,51,54,52,54,53,54,54,54,55,54,56,54,57,55,48,55,49,55,50,55,51,55,52,55,53,55,54,55,55,55,56,55,57,56,48,56,49,56,50,56,51,56,52,56,53,56,54,56,55,56,56,56,57,57,48,57,49,57,50,57,51,57,52,57,53,57,54,57,55,57,56,57,57]:List UInt8) ((UInt32.ofInt (((UInt32.ofInt (((UInt32.ofInt (Int.tdiv (Int.tmod ((UInt32.ofInt ((u1 % (100000000:UInt64)).toNat:Int)).toNat:Int) 10000) 100)).toNat:Int) * 2)).toNat:Int)+1)).toNat:Int)) fun c2 =>
 Option.bind (idx ([48,48,48,49,48,50,48,51,48,52,48,53,48,54,48,55,48,56,48,57,49,48,49,49,49,50,49,51,49,52,49,53,49,54,49,55,49,56,49,57,50,48,50,49,50,50,50,51,50,52,50,53,50,54,50,55,50,56,50,57,51,48,51,49,51,50,51,51,51,52,51,53,51,54,51,55,51,56,51,57,52,48,52,49,52,50,52,51,52,52,52,53,52,54,52,55,52,56,52,57,53,48,53,49,53,50,53,51,53,52,53,53,53,54,53,55,53,56,53,57,54,48,54,49,54,50,54,51,54,52,54,53,54,54,54,55,54,56,54,57,55,48,55,49,55,50,55,51,55,52,55,53,55,54,55,55,55,56,55,57,56,48,56,49,56,50,56,51,56,52,56,53,56,54,56,55,56,56,56,57,57,48,57,49,57,50,57,51,57,52,57,53,57,54,57,55,57,56,57,57]:List UInt8) ((UInt32.ofInt (((UInt32.ofInt (Int.tdiv (Int.tmod ((UInt32.ofInt ((u1 % (100000000:UInt64)).toNat:Int)).toNat:Int) 10000) 100)).toNat:Int) * 2)).toNat:Int)) fun c3 =>
 Option.bind (idx ((a1.set ((IntKind.i64.wrap (nd - 1)).toNat) c).set ((IntKind.i64.wrap (nd - 2)).toNat) c1) (IntKind.i64.wrap (nd - 3))) fun x_2 =>
 Option.bind (chk (decide ((IntKind.i64.wrap (nd - 3)) < (len:Int)))) fun _ =>
 Option.bind (idx (((a1.set ((IntKind.i64.wrap (nd - 1)).toNat) c).set ((IntKind.i64.wrap (nd - 2)).toNat) c1).set ((IntKind.i64.wrap (nd - 3)).toNat) c2) (IntKind.i64.wrap (nd - 4))) fun x_3 =>
 Option.bind (chk (decide ((IntKind.i64.wrap (nd - 4)) < (len:Int)))) fun _ =>
 Option.bind (idx ([48,48,48,49,48,50,48,51,48,52,48,53,48,54,48,55,48,56,48,57,49,48,49,49,49,50,49,51,49,52,49,53,49,54,49,55,49,56,49,57,50,48,50,49,50,50,50,51,50,52,50,53,50,54,50,55,50,56,50,57,51,48,51,49,51,50,51,51,51,52,51,53,51,54,51,55,51,56,51,57,52,48,52,49,52,50,52,51,52,52,52,53,52,54,52,55,52,56,52,57,53,48,53,49,53,50,53,51,53,52,53,53,53,54,53,55,53,56,53,57,54,48,54,49,54,50,54,51,54,52,54,53,54,54,54,55,54,56,54,57,55,48,55,49,55,50,55,51,55,52,55,53,55,54,55,55,55,56,55,57,56,48,56,49,56,50,56,51,56,52,56,53,56,54,56,55,56,56,56,57,57,48,57,49,57,50,57,51,57,52,57,53,57,54,57,55,57,56,57,57]:List UInt8) ((UInt32.ofInt (((UInt32.ofInt ((Int.tmod ((UInt32.ofInt (Int.tdiv ((UInt32.ofInt ((u1 % (100000000:UInt64)).toNat:Int)).toNat:Int) 10000)).toNat:Int) 100) * 2)).toNat:Int)+1)).toNat:Int)) fun c4 =>
 Option.bind (idx ([48,48,48,49,48,50,48,51,48,52,48,53,48,54,48,55,48,56,48,57,49,48,49,49,49,50,49,51,49,52,49,53,49,54,49,55,49,56,49,57,50,48,50,49,50,50,50,51,50,52,50,53,50,54,50,55,50,56,50,57,51,48,51,49,51,50,51,51,51,52,51,53,51,54,51,55,51,56,51,57,52,48,52,49,52,50,52,51,52,52,52,53,52,54,52,55,52,56,52,57,53,48,53,49,53,50,53,51,53,52,53,53,53,54,53,55,53,56,53,57,54,48,54,49,54,50,54,51,54,52,54,53,54,54,54,55,54,56,54,57,55,48,55,49,55,50,55,51,55,52,55,53,55,54,55,55,55,56,55,57,56,48,56,49,56,50,56,51,56,52,56,53,56,54,56,55,56,56,56,57,57,48,57,49,57,50,57,51,57,52,57,53,57,54,57,55,57,56,57,57]:List UInt8) ((UInt32.ofInt ((Int.tmod ((UInt32.ofInt (Int.tdiv ((UInt32.ofInt ((u1 % (100000000:UInt64)).toNat:Int)).toNat:Int) 10000)).toNat:Int) 100) * 2)).toNat:Int)) fun c5 =>
 Option.bind (idx ((((a1.set ((IntKind.i64.wrap (nd - 1)).toNat) c).set ((IntKind.i64.wrap (nd - 2)).toNat) c1).set ((IntKind.i64.wrap (nd - 3)).toNat) c2).set ((IntKind.i64.wrap (nd - 4)).toNat) c3) (IntKind.i64.wrap (nd - 5))) fun x_4 =>
 Option.bind (chk (decide ((IntKind.i64.wrap (nd - 5)) < (len:Int)))) fun _ =>
 Option.bind (idx (((((a1.set ((IntKind.i64.wrap (nd - 1)).toNat) c).set ((IntKind.i64.wrap (nd - 2)).toNat) c1).set ((IntKind.i64.wrap (nd - 3)).toNat) c2).set ((IntKind.i64.wrap (nd - 4)).toNat) c3).set ((IntKind.i64.wrap (nd - 5)).toNat) c4) (IntKind.i64.wrap (nd - 6))) fun x_5 =>
 Option.bind (chk (decide ((IntKind.i64.wrap (nd - 6)) < (len:Int)))) fun _ =>
 Option.bind (idx ([48,48,48,49,48,50,48,51,48,52,48,53,48,54,48,55,48,56,48,57,49,48,49,49,49,50,49,51,49,52,49,53,49,54,49,55,49,56,49,57,50,48,50,49,50,50,50,51,50,52,50,53,50,54,50,55,50,56,50,57,51,48,51,49,51,50,51,51,51,52,51,53,51,54,51,55,51,56,51,57,52,48,52,49,52,50,52,51,52,52,52,53,52,54,52,55,52,56,52,57,53,48,53,49,53,50,53,51,53,52,53,53,53,54,53,55,53,56,53,57,54,48,54,49,54,50,54,51,54,52,54,53,54,54,54,55,54,56,54,57,55,48,55,49,55,50,55,51,55,52,55,53,55,54,55,55,55,56,55,57,56,48,56,49,56,50,56,51,56,52,56,53,56,54,56,55,56,56,56,57,57,48,57,49,57,50,57,51,57,52,57,53,57,54,57,55,57,56,57,57]:List UInt8) ((UInt32.ofInt (((UInt32.ofInt (((UInt32.ofInt (Int.tdiv ((UInt32.ofInt (Int.tdiv ((UInt32.ofInt ((u1 % (100000000:UInt64)).toNat:Int)).toNat:Int) 10000)).toNat:Int) 100)).toNat:Int) * 2)).toNat:Int)+1)).toNat:Int)) fun c6 =>
 Option.bind (idx ([48,48,48,49,48,50,48,51,48,52,48,53,48,54,48,55,48,56,48,57,49,48,49,49,49,50,49,51,49,52,49,53,49,54,49,55,49,56,49,57,50,48,50,49,50,50,50,51,50,52,50,53,50,54,50,55,50,56,50,57,51,48,51,49,51,50,51,51,51,52,51,53,51,54,51,55,51,56,51,57,52,48,52,49,52,50,52,51,52,52,52,53,52,54,52,55,52,56,52,57,53,48,53,49,53,50,53,51,53,52,53,53,53,54,53,55,53,56,53,57,54,48,54,49,54,50,54,51,54,52,54,53,54,54,54,55,54,56,54,57,55,48,55,49,55,50,55,51,55,52,55,53,55,54,55,55,55,56,55,57,56,48,56,49,56,50,56,51,56,52,56,53,56,54,56,55,56,56,56,57,57,48,57,49,57,50,57,51,57,52,57,53,57,54,57,55,57,56,57,57]:List UInt8) ((UInt32.ofInt (((UInt32.ofInt (Int.tdiv ((UInt32.ofInt (Int.tdiv ((UInt32.ofInt ((u1 % (100000000:UInt64)).toNat:Int)).toNat:Int) 10000)).toNat:Int) 100)).toNat:Int) * 2)).toNat:Int)) fun c7 =>
 Option.bind (idx ((((((a1.set ((IntKind.i64.wrap (nd - 1)).toNat) c).set ((IntKind.i64.wrap (nd - 2)).toNat) c1).set ((IntKind.i64.wrap (nd - 3)).toNat) c2).set ((IntKind.i64.wrap (nd - 4)).toNat) c3).set ((IntKind.i64.wrap (nd - 5)).toNat) c4).set ((IntKind.i64.wrap (nd - 6)).toNat) c5) (IntKind.i64.wrap (nd - 7))) fun x_6 =>
 Option.bind (chk (decide ((IntKind.i64.wrap (nd - 7)) < (len:Int)))) fun _ =>
 Option.bind (idx (((((((a1.set ((IntKind.i64.wrap (nd - 1)).toNat) c).set ((IntKind.i64.wrap (nd - 2)).toNat) c1).set ((IntKind.i64.wrap (nd - 3)).toNat) c2).set ((IntKind.i64.wrap (nd - 4)).toNat) c3).set ((IntKind.i64.wrap (nd - 5)).toNat) c4).set ((IntKind.i64.wrap (nd - 6)).toNat) c5).set ((IntKind.i64.wrap (nd - 7)).toNat) c6) (IntKind.i64.wrap (nd - 8))) fun x_7 =>
 Option.bind (chk (decide ((IntKind.i64.wrap (nd - 8)) < (len:Int)))) fun _ =>
 some (.inl (((((((((a1.set ((IntKind.i64.wrap (nd - 1)).toNat) c).set ((IntKind.i64.wrap (nd - 2)).toNat) c1).set ((IntKind.i64.wrap (nd - 3)).toNat) c2).set ((IntKind.i64.wrap (nd - 4)).toNat) c3).set ((IntKind.i64.wrap (nd - 5)).toNat) c4).set ((IntKind.i64.wrap (nd - 6)).toNat) c5).set ((IntKind.i64.wrap (nd - 7)).toNat) c6).set ((IntKind.i64.wrap (nd - 8)).toNat) c7),(u1 / (100000000:UInt64)),(IntKind.i64.wrap (nd - 8)))))
 (some (.inr (a1,u1,nd)))
noncomputable def internal_strconv_formatBase10 (a:(List UInt8)) (len:Nat) (u:UInt64):Option (List UInt8) :=
 Option.bind
 (loopO (fun s => internal_strconv_formatBase10_l1 len s.1 s.2.1 s.2.2) (a,u,(len:Int))) fun (a1,u1,nd) =>
 cond (decide (nd ≥ 4))
 (Option.bind (idx ([48,48,48,49,48,50,48,51,48,52,48,53,48,54,48,55,48,56,48,57,49,48,49,49,49,50,49,51,49,52,49,53,49,54,49,55,49,56,49,57,50,48,50,49,50,50,50,51,50,52,50,53,50,54,50,55,50,56,50,57,51,48,51,49,51,50,51,51,51,52,51,53,51,54,51,55,51,56,51,57,52,48,52,49,52,50,52,51,52,52,52,53,52,54,52,55,52,56,52,57,53,48,53,49,53,50,53,51,53,52,53,53,53,54,53,55,53,56,53,57,54,48,54,49,54,50,54,51,54,52,54,53,54,54,54,55,54,56,54,57,55,48,55,49,55,50,55,51,55,52,55,53,55,54,55,55,55,56,55,57,56,48,56,49,56,50,56,51,56,52,56,53,56,54,56,55,56,56,56,57,57,48,57,49,57,50,57,51,57,52,57,53,57,54,57,55,57,56,57,57]:List UInt8) ((UInt32.ofInt (((UInt32.ofInt ((Int.tmod (Int.tmod ((UInt32.ofInt (u1.toNat:Int)).toNat:Int) 10000) 100) * 2)).toNat:Int)+1)).toNat:Int)) fun c8 =>
 Option.bind (idx ([48,48,48,49,48,50,48,51,48,52,48,53,48,54,48,55,48,56,48,57,49,48,49,49,49,50,49,51,49,52,49,53,49,54,49,55,49,56,49,57,50,48,50,49,50,50,50,51,50,52,50,53,50,54,50,55,50,56,50,57,51,48,51,49,51,50,51,51,51,52,51,53,51,54,51,55,51,56,51,57,52,48,52,49,52,50,52,51,52,52,52,53,52,54,52,55,52,56,52,57,53,48,53,49,53,50,53,51,53,52,53,53,53,54,53,55,53,56,53,57,54,48,54,49,54,50,54,51,54,52,54,53,54,54,54,55,54,56,54,57,55,48,55,49,55,50,55,51,55,52,55,53,55,54,55,55,55,56,55,57,56,48,56,49,56,50,56,51,56,52,56,53,56,54,56,55,56,56,56,57,57,48,57,49,57,50,57,51,57,52,57,53,57,54,57,55,57,56,57,57]:List UInt8) ((UInt32.ofInt ((Int.tmod (Int.tmod ((UInt32.ofInt (u1.toNat:Int)).toNat:Int) 10000) 100) * 2)).toNat:Int)) fun c9 =>
 Option.bind (idx a1 (IntKind.i64.wrap (nd - 1))) fun x_8 =>
 Option.bind (chk (decide ((IntKind.i64.wrap (nd - 1)) < (len:Int)))) fun _ =>
 Option.bind (idx (a1.set ((IntKind.i64.wrap (nd - 1)).toNat) c8) (IntKind.i64.wrap (nd - 2))) fun x_9 =>
 Option.bind (chk (decide ((IntKind.i64.wrap (nd - 2)) < (len:Int)))) fun _ =>
 Option.bind (idx ([48,48,48,49,48,50,48,51,48,52,48,53,48,54,48,55,48,56,48,57,49,48,49,49,49,50,49,51,49,52,49,53,49,54,49,55,49,56,49,57,50,48,50,49,50,50,50,51,50,52,50,53,50,54,50,55,50,56,50,57,51,48,51,49,51,50,51,51,51,52,51,53,51,54,51,55,51,56,51,57,52,48,52,49,52,50,52,51,52,52,52,53,52,54,52,55,52,56,52,57,53,48,53,49,53,50,53,51,53,52,53,53,53,54,53,55,53,56,53,57,54,48,54,49,54,50,54,51,54,52,54,53,54,54,54,55,54,56,54,57,55,48,55,49,55,50,55,51,55,52,55,53,55,54,55,55,55,56,55,57,56,48,56,49,56,50,56,51,56,52,56,53,56,54,56,55,56,56,56,57,57,48,57,49,57,50,57,51,57,52,57,53,57,54,57,55,57,56,57,57]:List UInt8) ((UInt32.ofInt (((UInt32.ofInt (((UInt32.ofInt (Int.tdiv (Int.tmod ((UInt32.ofInt (u1.toNat:Int)).toNat:Int) 10000) 100)).toNat:Int) * 2)).toNat:Int)+1)).toNat:Int)) fun c10 =>
 Option.bind (idx ([48,48,48,49,48,50,48,51,48,52,48,53,48,54,48,55,48,56,48,57,49,48,49,49,49,50,49,51,49,52,49,53,49,54,49,55,49,56,49,57,50,48,50,49,50,50,50,51,50,52,50,53,50,54,50,55,50,56,50,57,51,48,51,49,51,50,51,51,51,52,51,53,51,54,51,55,51,56,51,57,52,48,52,49,52,50,52,51,52,52,52,53,52,54,52,55,52,56,52,57,53,48,53,49,53,50,53,51,53,52,53,53,53,54,53,55,53,56,53,57,54,48,54,49,54,50,54,51,54,52,54,53,54,54,54,55,54,56,54,57,55,48,55,49,55,50,55,51,55,52,55,53,55,54,55,55,55,56,55,57,56,48,56,49,56,50,56,51,56,52,56,53,56,54,56,55,56,56,56,57,57,48,57,49,57,50,57,51,57,52,57,53,57,54,57,55,57,56,57,57]:List UInt8) ((UInt32.ofInt (((UInt32.ofInt (Int.tdiv (Int.tmod ((UInt32.ofInt (u1.toNat:Int)).toNat:Int) 10000) 100)).toNat:Int) * 2)).toNat:Int)) fun c11 =>
 Option.bind (idx ((a1.set ((IntKind.i64.wrap (nd - 1)).toNat) c8).set ((IntKind.i64.wrap (nd - 2)).toNat) c9) (IntKind.i64.wrap (nd - 3))) fun x_10 =>
 Option.bind (chk (decide ((IntKind.i64.wrap (nd - 3)) < (len:Int)))) fun _ =>
 Option.bind (idx (((a1.set ((IntKind.i64.wrap (nd - 1)).toNat) c8).set ((IntKind.i64.wrap (nd - 2)).toNat) c9).set ((IntKind.i64.wrap (nd - 3)).toNat) c10) (IntKind.i64.wrap (nd - 4))) fun x_11 =>
 Option.bind (chk (decide ((IntKind.i64.wrap (nd - 4)) < (len:Int)))) fun _ =>
 cond (decide ((IntKind.i64.wrap (nd - 4)) ≥ 2))
 (Option.bind (idx ([48,48,48,49,48,50,48,51,48,52,48,53,48,54,48,55,48,56,48,57,49,48,49,49,49,50,49,51,49,52,49,53,49,54,49,55,49,56,49,57,50,48,50,49,50,50,50,51,50,52,50,53,50,54,50,55,50,56,50,57,51,48,51,49,51,50,51,51,51,52,51,53,51,54,51,55,51,56,51,57,52,48,52,49,52,50,52,51,52,52,52,53,52,54,52,55,52,56,52,57,53,48,53,49,53,50,53,51,53,52,53,53,53,54,53,55,53,56,53,57,54,48,54,49,54,50,54,51,54,52,54,53,54,54,54,55,54,56,54,57,55,48,55,49,55,50,55,51,55,52,55,53,55,54,55,55,55,56,55,57,56,48,56,49,56,50,56,51,56,52,56,53,56,54,56,55,56,56,56,57,57,48,57,49,57,50,57,51,57,52,57,53,57,54,57,55,57,56,57,57]:List UInt8) ((UInt32.ofInt (((UInt32.ofInt ((Int.tmod ((UInt32.ofInt (Int.tdiv ((UInt32.ofInt (u1.toNat:Int)).toNat:Int) 10000)).toNat:Int) 100) * 2)).toNat:Int)+1)).toNat:Int)) fun c12 =>
 Option.bind (idx ([48,48,48,49,48,50,48,51,48,52,48,53,48,54,48,55,48,56,48,57,49,48,49,49,49,50,49,51,49,52,49,53,49,54,49,55,49,56,49,57,50,48,50,49,50,50,50,51,50,52,50,53,50,54,50,55,50,56,50,57,51,48,51,49,51,50,51,51,51,52,51,53,51,54,51,55,51,56,51,57,52,48,52,49,52,50,52,51,52,52,52,53,52,54,52,55,52,56,52,57,53,48,53,49,53,50,53,51,53,52,53,53,53,54,53,55,53,56,53,57,54,48,54,49,54,50,54,51,54,52,54,53,54,54,54,55,54,56,54,57,55,48,55,49,55,50,55,51,55,52,55,53,55,54,55,55,55,56,55,57,56,48,56,49,56,50,56,51,56,52,56,53,56,54,56,55,56,56,56,57,57,48,57,49,57,50,57,51,57,52,57,53,57,54,57,55,57,56,57,57]:List UInt8) ((UInt32.ofInt ((Int.tmod ((UInt32.ofInt (Int.tdiv ((UInt32.ofInt (u1.toNat:Int)).toNat:Int) 10000)).toNat:Int) 100) * 2)).toNat:Int)) fun c13 =>
 Option.bind (idx ((((a1.set ((IntKind.i64.wrap (nd - 1)).toNat) c8).set ((IntKind.i64.wrap (nd - 2)).toNat) c9).set ((IntKind.i64.wrap (nd - 3)).toNat) c10).set ((IntKind.i64.wrap (nd - 4)).toNat) c11) (IntKind.i64.wrap ((IntKind.i64.wrap (nd - 4)) - 1))) fun x_12 =>
 Option.bind (chk (decide ((IntKind.i64.wrap ((IntKind.i64.wrap (nd - 4)) - 1)) < (len:Int)))) fun _ =>
 Option.bind (idx (((((a1.set ((IntKind.i64.wrap (nd - 1)).toNat) c8).set ((IntKind.i64.wrap (nd - 2)).toNat) c9).set ((IntKind.i64.wrap (nd - 3)).toNat) c10).set ((IntKind.i64.wrap (nd - 4)).toNat) c11).set ((IntKind.i64.wrap ((IntKind.i64.wrap (nd - 4)) - 1)).toNat) c12) (IntKind.i64.wrap ((IntKind.i64.wrap (nd - 4)) - 2))) fun x_13 =>
 Option.bind (chk (decide ((IntKind.i64.wrap ((IntKind.i64.wrap (nd - 4)) - 2)) < (len:Int)))) fun _ =>
 cond (decide ((IntKind.i64.wrap ((IntKind.i64.wrap (nd - 4)) - 2)) > 0))
 (Option.bind (idx ((((((a1.set ((IntKind.i64.wrap (nd - 1)).toNat) c8).set ((IntKind.i64.wrap (nd - 2)).toNat) c9).set ((IntKind.i64.wrap (nd - 3)).toNat) c10).set ((IntKind.i64.wrap (nd - 4)).toNat) c11).set ((IntKind.i64.wrap ((IntKind.i64.wrap (nd - 4)) - 1)).toNat) c12).set ((IntKind.i64.wrap ((IntKind.i64.wrap (nd - 4)) - 2)).toNat) c13) 0) fun x_14 =>
 Option.bind (chk (decide (0 < (len:Int)))) fun _ =>
 some (((((((a1.set ((IntKind.i64.wrap (nd - 1)).toNat) c8).set ((IntKind.i64.wrap (nd - 2)).toNat) c9).set ((IntKind.i64.wrap (nd - 3)).toNat) c10).set ((IntKind.i64.wrap (nd - 4)).toNat) c11).set ((IntKind.i64.wrap ((IntKind.i64.wrap (nd - 4)) - 1)).toNat) c12).set ((IntKind.i64.wrap ((IntKind.i64.wrap (nd - 4)) - 2)).toNat) c13).set ((0:Int).toNat) (UInt8.ofInt ((UInt32.ofInt (48+((UInt32.ofInt (Int.tdiv ((UInt32.ofInt (Int.tdiv ((UInt32.ofInt (u1.toNat:Int)).toNat:Int) 10000)).toNat:Int) 100)).toNat:Int))).toNat:Int))))
 (some ((((((a1.set ((IntKind.i64.wrap (nd - 1)).toNat) c8).set ((IntKind.i64.wrap (nd - 2)).toNat) c9).set ((IntKind.i64.wrap (nd - 3)).toNat) c10).set ((IntKind.i64.wrap (nd - 4)).toNat) c11).set ((IntKind.i64.wrap ((IntKind.i64.wrap (nd - 4)) - 1)).toNat) c12).set ((IntKind.i64.wrap ((IntKind.i64.wrap (nd - 4)) - 2)).toNat) c13)))
 (cond (decide ((IntKind.i64.wrap (nd - 4)) > 0))
 (Option.bind (idx ((((a1.set ((IntKind.i64.wrap (nd - 1)).toNat) c8).set ((IntKind.i64.wrap (nd - 2)).toNat) c9).set ((IntKind.i64.wrap (nd - 3)).toNat) c10).set ((IntKind.i64.wrap (nd - 4)).toNat) c11) 0) fun x_15 =>
 Option.bind (chk (decide (0 < (len:Int)))) fun _ =>
 some (((((a1.set ((IntKind.i64.wrap (nd - 1)).toNat) c8).set ((IntKind.i64.wrap (nd - 2)).toNat) c9).set ((IntKind.i64.wrap (nd - 3)).toNat) c10).set ((IntKind.i64.wrap (nd - 4)).toNat) c11).set ((0:Int).toNat) (UInt8.ofInt ((UInt32.ofInt (48+((UInt32.ofInt (Int.tdiv ((UInt32.ofInt (u1.toNat:Int)).toNat:Int) 10000)).toNat:Int))).toNat:Int))))
 (some ((((a1.set ((IntKind.i64.wrap (nd - 1)).toNat) c8).set ((IntKind.i64.wrap (nd - 2)).toNat) c9).set ((IntKind.i64.wrap (nd - 3)).toNat) c10).set ((IntKind.i64.wrap (nd - 4)).toNat) c11))))
 (cond (decide (nd ≥ 2))
 (Option.bind (idx ([48,48,48,49,48,50,48,51,48,52,48,53,48,54,48,55,48,56,48,57,49,48,49,49,49,50,49,51,49,52,49,53,49,54,49,55,49,56,49,57,50,48,50,49,50,50,50,51,50,52,50,53,50,54,50,55,50,56,50,57,51,48,51,49,51,50,51,51,51,52,51,53,51,54,51,55,51,56,51,57,52,48,52,49,52,50,52,51,52,52,52,53,52,54,52,55,52,56,52,57,53,48,53,49,53,50,53,51,53,52,53,53,53,54,53,55,53,56,53,57,54,48,54,49,54,50,54,51,54,52,54,53,54,54,54,55,54,56,54,57,55,48,55,49,55,50,55,51,55,52,55,53,55,54,55,55,55,56,55,57,56,48,56,49,56,50,56,51,56,52,56,53,56,54,56,55,56,56,56,57,57,48,57,49,57,50,57,51,57,52,57,53,57,54,57,55,57,56,57,57]:List UInt8) ((UInt32.ofInt (((UInt32.ofInt ((Int.tmod ((UInt32.ofInt (u1.toNat:Int)).toNat:Int) 100) * 2)).toNat:Int)+1)).toNat:Int)) fun c14 =>
 Option.bind (idx ([48,48,48,49,48,50,48,51,48,52,48,53,48,54,48,55,48,56,48,57,49,48,49,49,49,50,49,51,49,52,49,53,49,54,49,55,49,56,49,57,50,48,50,49,50,50,50,51,50,52,50,53,50,54,50,55,50,56,50,57,51,48,51,49,51,50,51,51,51,52,51,53,51,54,51,55,51,56,51,57,52,48,52,49,52,50,52,51,52,52,52,53,52,54,52,55,52,56,52,57,53,48,53,49,53,50,53,51,53,52,53,53,53,54,53,55,53,56,53,57,54,48,54,49,54,50,54,51,54,52,54,53,54,54,54,55,54,56,54,57,55,48,55,49,55,50,55,51,55,52,55,53,55,54,55,55,55,56,55,57,56,48,56,49,56,50,56,51,56,52,56,53,56,54,56,55,56,56,56,57,57,48,57,49,57,50,57,51,57,52,57,53,57,54,57,55,57,56,57,57]:List UInt8) ((UInt32.ofInt ((Int.tmod ((UInt32.ofInt (u1.toNat:Int)).toNat:Int) 100) * 2)).toNat:Int)) fun c15 =>
 Option.bind (idx a1 (nd - 1)) fun x_16 =>
 Option.bind (chk (decide ((nd - 1) < (len:Int)))) fun _ =>
 Option.bind (idx (a1.set ((nd - 1).toNat) c14) (nd - 2)) fun x_17 =>
 Option.bind (chk (decide ((nd - 2) < (len:Int)))) fun _ =>
 cond (decide ((nd - 2) > 0))
 (Option.bind (idx ((a1.set ((nd - 1).toNat) c14).set ((nd - 2).toNat) c15) 0) fun x_18 =>
 Option.bind (chk (decide (0 < (len:Int)))) fun _ =>
 some (((a1.set ((nd - 1).toNat) c14).set ((nd - 2).toNat) c15).set ((0:Int).toNat) (UInt8.ofInt ((UInt32.ofInt (48+((UInt32.ofInt (Int.tdiv ((UInt32.ofInt (u1.toNat:Int)).toNat:Int) 100)).toNat:Int))).toNat:Int))))
 (some ((a1.set ((nd - 1).toNat) c14).set ((nd - 2).toNat) c15)))
 (cond (decide (nd > 0))
 (Option.bind (idx a1 0) fun x_19 =>
 Option.bind (chk (decide (0 < (len:Int)))) fun _ =>
 some (a1.set ((0:Int).toNat) (UInt8.ofInt ((UInt32.ofInt (48+((UInt32.ofInt (u1.toNat:Int)).toNat:Int))).toNat:Int))))
 (some a1)))
def internal_strconv_isPowerOfTwo (x_:Int):Bool :=
 ((Go.bits .and .i64 x_ (IntKind.i64.wrap (x_ - 1))) == 0)
noncomputable def math_bits_TrailingZeros64 (x_:UInt64):Option Int :=
 cond ((x_.toNat:Int) == 0)
 (some 64)
 (Option.bind (idx tab2 ((shr64 ((x_ &&& ((0:UInt64) - x_)) * (285870213051353865:UInt64)) 58).toNat:Int)) fun x_1 =>
 some (x_1.toNat:Int))
noncomputable def math_bits_TrailingZeros (x_:UInt64):Option Int :=
 Option.bind (math_bits_TrailingZeros64 x_) fun traili =>
 some traili
noncomputable def internal_strconv_formatBits_l1 (base:Int) (traili:Int) (u2:UInt64) (a:(List UInt8)) (i:Int):Option (Sum (UInt64 × (List UInt8) × Int) (UInt64 × (List UInt8) × Int)) :=
 cond (decide ((u2.toNat:Int) ≥ ((UInt64.ofInt base).toNat:Int)))
 (Option.bind (idx ([48,49,50,51,52,53,54,55,56,57,97,98,99,100,101,102,103,104,105,106,107,108,109,110,111,112,113,114,115,116,117,118,119,120,121,122]:List UInt8) ((u2 &&& ((UInt64.ofInt base) - (1:UInt64))).toNat:Int)) fun c =>
 Option.bind (idx a (IntKind.i64.wrap (i - 1))) fun x_ =>
 Option.bind (chk (decide ((IntKind.i64.wrap (i - 1)) < 65))) fun _ =>
 some (.inl ((shr64 u2 ((UInt64.ofInt traili).toNat:Int)),(a.set ((IntKind.i64.wrap (i - 1)).toNat) c),(IntKind.i64.wrap (i - 1)))))
 (some (.inr (u2,a,i)))
noncomputable def internal_strconv_formatBits_l2 (base:Int) (u3:UInt64) (a1:(List UInt8)) (i1:Int):Option (Sum (UInt64 × (List UInt8) × Int) (UInt64 × (List UInt8) × Int)) :=
 cond (decide ((u3.toNat:Int) ≥ ((UInt64.ofInt base).toNat:Int)))
 (Option.bind (chk (decide (((UInt64.ofInt base).toNat:Int) ≠ 0))) fun _ =>
 Option.bind (idx ([48,49,50,51,52,53,54,55,56,57,97,98,99,100,101,102,103,104,105,106,107,108,109,110,111,112,113,114,115,116,117,118,119,120,121,122]:List UInt8) ((u3 - ((u3 / (UInt64.ofInt base)) * (UInt64.ofInt base))).toNat:Int)) fun c2 =>
 Option.bind (idx a1 (IntKind.i64.wrap (i1 - 1))) fun x_3 =>
 Option.bind (chk (decide ((IntKind.i64.wrap (i1 - 1)) < 65))) fun _ =>
 some (.inl ((u3 / (UInt64.ofInt base)),(a1.set ((IntKind.i64.wrap (i1 - 1)).toNat) c2),(IntKind.i64.wrap (i1 - 1)))))
 (some (.inr (u3,a1,i1)))
noncomputable def internal_strconv_formatBits (dst:(List UInt8)) (u:UInt64) (base:Int) (neg:Bool) (append_:Bool):Option ((List UInt8) × (List UInt8)) :=
 cond (decide (base < 2))
 (none)
 (cond (base == 10)
 (none)
 (cond (decide (base > 36))
 (none)
 (lt_
 (cond neg
 ((((0:UInt64) - u),true))
 ((u,false))) fun (u1,neg1) =>
 cond (internal_strconv_isPowerOfTwo base)
 (Option.bind (math_bits_TrailingZeros (UInt64.ofInt base)) fun traili =>
 Option.bind
 (loopO (fun s => internal_strconv_formatBits_l1 base traili s.1 s.2.1 s.2.2) (u1,(List.replicate 65 (0:UInt8)),65)) fun (u2,a,i) =>
 Option.bind (idx ([48,49,50,51,52,53,54,55,56,57,97,98,99,100,101,102,103,104,105,106,107,108,109,110,111,112,113,114,115,116,117,118,119,120,121,122]:List UInt8) (u2.toNat:Int)) fun c1 =>
 Option.bind (idx a (IntKind.i64.wrap (i - 1))) fun x_1 =>
 Option.bind (chk (decide ((IntKind.i64.wrap (i - 1)) < 65))) fun _ =>
 cond neg1
 (Option.bind (idx (a.set ((IntKind.i64.wrap (i - 1)).toNat) c1) (IntKind.i64.wrap ((IntKind.i64.wrap (i - 1)) - 1))) fun x_2 =>
 Option.bind (chk (decide ((IntKind.i64.wrap ((IntKind.i64.wrap (i - 1)) - 1)) < 65))) fun _ =>
 cond append_
 (Option.bind (chk (decide (((a.set ((IntKind.i64.wrap (i - 1)).toNat) c1).set ((IntKind.i64.wrap ((IntKind.i64.wrap (i - 1)) - 1)).toNat) (45:UInt8)).length=65))) fun _ =>
 Option.bind (slc ((a.set ((IntKind.i64.wrap (i - 1)).toNat) c1).set ((IntKind.i64.wrap ((IntKind.i64.wrap (i - 1)) - 1)).toNat) (45:UInt8)) (IntKind.i64.wrap ((IntKind.i64.wrap (i - 1)) - 1)) (((a.set ((IntKind.i64.wrap (i - 1)).toNat) c1).set ((IntKind.i64.wrap ((IntKind.i64.wrap (i - 1)) - 1)).toNat) (45:UInt8)).length:Int)) fun y_ =>
 Option.bind (app dst y_) fun b =>
 some (b,([]:List UInt8)))
 (Option.bind (chk (decide (((a.set ((IntKind.i64.wrap (i - 1)).toNat) c1).set ((IntKind.i64.wrap ((IntKind.i64.wrap (i - 1)) - 1)).toNat) (45:UInt8)).length=65))) fun _ =>
 Option.bind (slc ((a.set ((IntKind.i64.wrap (i - 1)).toNat) c1).set ((IntKind.i64.wrap ((IntKind.i64.wrap (i - 1)) - 1)).toNat) (45:UInt8)) (IntKind.i64.wrap ((IntKind.i64.wrap (i - 1)) - 1)) (((a.set ((IntKind.i64.wrap (i - 1)).toNat) c1).set ((IntKind.i64.wrap ((IntKind.i64.wrap (i - 1)) - 1)).toNat) (45:UInt8)).length:Int)) fun y_1 =>
 some ([],y_1)))
 (cond append_
 (Option.bind (chk (decide ((a.set ((IntKind.i64.wrap (i - 1)).toNat) c1).length=65))) fun _ =>
 Option.bind (slc (a.set ((IntKind.i64.wrap (i - 1)).toNat) c1) (IntKind.i64.wrap (i - 1)) ((a.set ((IntKind.i64.wrap (i - 1)).toNat) c1).length:Int)) fun y_2 =>
 Option.bind (app dst y_2) fun b1 =>
 some (b1,([]:List UInt8)))
 (Option.bind (chk (decide ((a.set ((IntKind.i64.wrap (i - 1)).toNat) c1).length=65))) fun _ =>
 Option.bind (slc (a.set ((IntKind.i64.wrap (i - 1)).toNat) c1) (IntKind.i64.wrap (i - 1)) ((a.set ((IntKind.i64.wrap (i - 1)).toNat) c1).length:Int)) fun y_3 =>
 some ([],y_3))))
 (Option.bind
 (loopO (fun s => internal_strconv_formatBits_l2 base s.1 s.2.1 s.2.2) (u1,(List.replicate 65 (0:UInt8)),65)) fun (u3,a1,i1) =>
 Option.bind (idx ([48,49,50,51,52,53,54,55,56,57,97,98,99,100,101,102,103,104,105,106,107,108,109,110,111,112,113,114,115,116,117,118,119,120,121,122]:List UInt8) (u3.toNat:Int)) fun c3 =>
 Option.bind (idx a1 (IntKind.i64.wrap (i1 - 1))) fun x_4 =>
 Option.bind (chk (decide ((IntKind.i64.wrap (i1 - 1)) < 65))) fun _ =>
 cond neg1
 (Option.bind (idx (a1.set ((IntKind.i64.wrap (i1 - 1)).toNat) c3) (IntKind.i64.wrap ((IntKind.i64.wrap (i1 - 1)) - 1))) fun x_5 =>
 Option.bind (chk (decide ((IntKind.i64.wrap ((IntKind.i64.wrap (i1 - 1)) - 1)) < 65))) fun _ =>
 cond append_
 (Option.bind (chk (decide (((a1.set ((IntKind.i64.wrap (i1 - 1)).toNat) c3).set ((IntKind.i64.wrap ((IntKind.i64.wrap (i1 - 1)) - 1)).toNat) (45:UInt8)).length=65))) fun _ =>
 Option.bind (slc ((a1.set ((IntKind.i64.wrap (i1 - 1)).toNat) c3).set ((IntKind.i64.wrap ((IntKind.i64.wrap (i1 - 1)) - 1)).toNat) (45:UInt8)) (IntKind.i64.wrap ((IntKind.i64.wrap (i1 - 1)) - 1)) (((a1.set ((IntKind.i64.wrap (i1 - 1)).toNat) c3).set ((IntKind.i64.wrap ((IntKind.i64.wrap (i1 - 1)) - 1)).toNat) (45:UInt8)).length:Int)) fun y_4 =>
 Option.bind (app dst y_4) fun b2 =>
 some (b2,([]:List UInt8)))
 (Option.bind (chk (decide (((a1.set ((IntKind.i64.wrap (i1 - 1)).toNat) c3).set ((IntKind.i64.wrap ((IntKind.i64.wrap (i1 - 1)) - 1)).toNat) (45:UInt8)).length=65))) fun _ =>
 Option.bind (slc ((a1.set ((IntKind.i64.wrap (i1 - 1)).toNat) c3).set ((IntKind.i64.wrap ((IntKind.i64.wrap (i1 - 1)) - 1)).toNat) (45:UInt8)) (IntKind.i64.wrap ((IntKind.i64.wrap (i1 - 1)) - 1)) (((a1.set ((IntKind.i64.wrap (i1 - 1)).toNat) c3).set ((IntKind.i64.wrap ((IntKind.i64.wrap (i1 - 1)) - 1)).toNat) (45:UInt8)).length:Int)) fun y_5 =>
 some ([],y_5)))
 (cond append_
 (Option.bind (chk (decide ((a1.set ((IntKind.i64.wrap (i1 - 1)).toNat) c3).length=65))) fun _ =>
 Option.bind (slc (a1.set ((IntKind.i64.wrap (i1 - 1)).toNat) c3) (IntKind.i64.wrap (i1 - 1)) ((a1.set ((IntKind.i64.wrap (i1 - 1)).toNat) c3).length:Int)) fun y_6 =>
 Option.bind (app dst y_6) fun b3 =>
 some (b3,([]:List UInt8)))
 (Option.bind (chk (decide ((a1.set ((IntKind.i64.wrap (i1 - 1)).toNat) c3).length=65))) fun _ =>
 Option.bind (slc (a1.set ((IntKind.i64.wrap (i1 - 1)).toNat) c3) (IntKind.i64.wrap (i1 - 1)) ((a1.set ((IntKind.i64.wrap (i1 - 1)).toNat) c3).length:Int)) fun y_7 =>
 some ([],y_7)))))))
noncomputable def internal_strconv_AppendUint (dst:(List UInt8)) (i:UInt64) (base:Int):Option (List UInt8) :=
 cond (base == 10)
 (cond (decide ((i.toNat:Int) < 100))
 (Option.bind (internal_strconv_small (IntKind.i64.wrap (i.toNat:Int))) fun small =>
 Option.bind (app dst small) fun b =>
 some b)
 (Option.bind (internal_strconv_numDigits i) fun numDig =>
 Option.bind (chk (decide (0 ≤ numDig ∧ numDig ≤ 24))) fun _ =>
 Option.bind (internal_strconv_formatBase10 (List.replicate 24 (0:UInt8)) numDig.toNat i) fun format =>
 Option.bind (chk (decide (0 ≤ numDig ∧ numDig ≤ 24))) fun _ =>
 Option.bind (chk (decide ((format.take numDig.toNat).length=numDig.toNat))) fun _ =>
 Option.bind (app dst (format.take numDig.toNat)) fun b1 =>
 some b1))
 (Option.bind (internal_strconv_formatBits dst i base false true) fun format1 =>
 some format1.1)
noncomputable def internal_strconv_AppendInt (dst:(List UInt8)) (i:Int) (base:Int):Option (List UInt8) :=
 cond (decide (i < 0))
 (Option.bind (app dst [(45:UInt8)]) fun b =>
 Option.bind (internal_strconv_AppendUint b ((0:UInt64) - (UInt64.ofInt i)) base) fun append =>
 some append)
 (Option.bind (internal_strconv_AppendUint dst (UInt64.ofInt i) base) fun append1 =>
 some append1)
noncomputable def strconv_AppendInt (dst:(List UInt8)) (i:Int) (base:Int):Option (List UInt8) :=
 Option.bind (internal_strconv_AppendInt dst i base) fun append =>
 some append
noncomputable def manifest_num (b:(List UInt8)) (n_:Int) (base:Int):Option (List UInt8) :=
 Option.bind (app b [(32:UInt8)]) fun b1 =>
 Option.bind (strconv_AppendInt b1 n_ base) fun append =>
 some append
def manifest_plain (c:UInt8):Bool :=
 cond (decide ((c.toNat:Int) > 32))
 (cond (decide ((c.toNat:Int) < 127))
 (((c.toNat:Int) != 37))
 (false))
 (false)
noncomputable def manifest_Quote_l1 (s_:(List UInt8)) (b:(List UInt8)) (t:Nat):Option (Sum ((List UInt8) × Nat) (List UInt8)) :=
 cond (decide ((t:Int) < (s_.length:Int)))
 (Option.bind (idx s_ (t:Int)) fun c =>
 cond (manifest_plain c)
 (Option.bind (app b [c]) fun b1 =>
 some (.inl (b1,(t+1))))
 (Option.bind (idx ([48,49,50,51,52,53,54,55,56,57,97,98,99,100,101,102]:List UInt8) ((shr8 c 4).toNat:Int)) fun c1 =>
 Option.bind (idx ([48,49,50,51,52,53,54,55,56,57,97,98,99,100,101,102]:List UInt8) ((c &&& (15:UInt8)).toNat:Int)) fun c2 =>
 Option.bind (app b [(37:UInt8),c1,c2]) fun b2 =>
 some (.inl (b2,(t+1)))))
 (some (.inr b))
noncomputable def manifest_Quote (s_:(List UInt8)):Option (List UInt8) :=
 cond (s_ == ([]:List UInt8))
 (some ([37]:List UInt8))
 (Option.bind
 (loopO (fun s => manifest_Quote_l1 s_ s.1 s.2) ([],0)) fun b =>
 some b)
noncomputable def manifest_line (b:(List UInt8)) (x_:TApiEntry):Option (List UInt8) :=
 Option.bind (idx ([102,100,108,98,99,104]:List UInt8) (IntKind.i64.wrap (x_.Kind - 1))) fun c =>
 Option.bind (app b [c]) fun b1 =>
 Option.bind
 (cond (x_.Kind != 6)
 (Option.bind (manifest_num b1 x_.Mode 8) fun num =>
 Option.bind (manifest_num num x_.Uid 10) fun num1 =>
 Option.bind (manifest_num num1 x_.Gid 10) fun num2 =>
 Option.bind (manifest_num num2 x_.Time 10) fun num3 =>
 some num3)
 (some b1)) fun b2 =>
 Option.bind
 (cond (x_.Kind == 1)
 (Option.bind (manifest_num b2 x_.Size 10) fun num4 =>
 some num4)
 (cond (x_.Kind == 4)
 (Option.bind (manifest_num b2 x_.Dev 10) fun num5 =>
 some num5)
 (cond (x_.Kind == 5)
 (Option.bind (manifest_num b2 x_.Dev 10) fun num6 =>
 some num6)
 (some b2)))) fun b3 =>
 Option.bind (app b3 [(32:UInt8)]) fun b4 =>
 Option.bind (manifest_Quote x_.Path) fun quote =>
 Option.bind (app b4 quote) fun b5 =>
 cond (x_.Kind == 3)
 (Option.bind (app b5 [(32:UInt8)]) fun b6 =>
 Option.bind (manifest_Quote x_.Target) fun quote1 =>
 Option.bind (app b6 quote1) fun b7 =>
 Option.bind (app b7 [(10:UInt8)]) fun b8 =>
 some b8)
 (cond (x_.Kind == 6)
 (Option.bind (app b5 [(32:UInt8)]) fun b9 =>
 Option.bind (manifest_Quote x_.Target) fun quote2 =>
 Option.bind (app b9 quote2) fun b10 =>
 Option.bind (app b10 [(10:UInt8)]) fun b11 =>
 some b11)
 (Option.bind (app b5 [(10:UInt8)]) fun b12 =>
 some b12))
noncomputable def manifest_hex_l1 (x_:(List UInt8)) (b1:(List UInt8)) (t:Nat):Option (Sum ((List UInt8) × Nat) (List UInt8)) :=
 cond (decide ((t:Int) < (x_.length:Int)))
 (Option.bind (x_[t]?) fun x_1 =>
 Option.bind (idx ([48,49,50,51,52,53,54,55,56,57,97,98,99,100,101,102]:List UInt8) ((shr8 x_1 4).toNat:Int)) fun c =>
 Option.bind (idx ([48,49,50,51,52,53,54,55,56,57,97,98,99,100,101,102]:List UInt8) ((x_1 &&& (15:UInt8)).toNat:Int)) fun c1 =>
 Option.bind (app b1 [c,c1]) fun b2 =>
 some (.inl (b2,(t+1))))
 (some (.inr b1))
noncomputable def manifest_hex (b:(List UInt8)) (x_:(List UInt8)):Option (List UInt8) :=
 Option.bind
 (loopO (fun s => manifest_hex_l1 x_ s.1 s.2) (b,0)) fun b1 =>
 some b1
noncomputable def manifest_rest_l1 (x_:TApiEntry) (b1:(List UInt8)) (d:(List UInt8)):Option (Sum ((List UInt8) × (List UInt8)) (List UInt8)) :=
 cond (x_.Kind == 1)
 (cond (decide ((d.length:Int) > 0))
 (Option.bind
 (Option.bind (app b1 [(61:UInt8),(32:UInt8)]) fun b2 =>
 Option.bind (slc d 0 (if (d.length:Int) < 32 then (d.length:Int) else 32)) fun y_ =>
 Option.bind (manifest_hex b2 y_) fun hex =>
 Option.bind (app hex [(10:UInt8)]) fun b3 =>
 some b3) fun b2 =>
 Option.bind (slc d (if (d.length:Int) < 32 then (d.length:Int) else 32) (d.length:Int)) fun y_1 =>
 some (.inl (b2,y_1)))
 (some (.inr b1)))
 (some (.inr b1))
noncomputable def manifest_rest_l2 (x_:TApiEntry) (b4:(List UInt8)) (t:Nat):Option (Sum ((List UInt8) × Nat) (List UInt8)) :=
 cond (decide ((t:Int) < (x_.Attrs.length:Int)))
 (Option.bind (x_.Attrs[t]?) fun x_1 =>
 cond (x_.Kind == 6)
 (some (.inr b4))
 (Option.bind (app b4 [(64:UInt8),(32:UInt8)]) fun b5 =>
 Option.bind (manifest_Quote x_1.Name) fun quote =>
 Option.bind (app b5 quote) fun b6 =>
 cond (decide ((x_1.Value.length:Int) > 0))
 (Option.bind (app b6 [(32:UInt8)]) fun b7 =>
 Option.bind (manifest_hex b7 x_1.Value) fun hex1 =>
 Option.bind (app hex1 [(10:UInt8)]) fun b8 =>
 some (.inl (b8,(t+1))))
 (Option.bind (app b6 [(10:UInt8)]) fun b9 =>
 some (.inl (b9,(t+1))))))
 (some (.inr b4))
noncomputable def manifest_rest (b:(List UInt8)) (x_:TApiEntry):Option (List UInt8) :=
 Option.bind
 (loopO (fun s => manifest_rest_l1 x_ s.1 s.2) (b,x_.Data)) fun b1 =>
 Option.bind
 (loopO (fun s => manifest_rest_l2 x_ s.1 s.2) (b1,0)) fun b4 =>
 some b4
noncomputable def manifest_Print_l1 (l_:(List TApiEntry)) (t:Nat):Option (Sum Nat (Sum Unit ((List UInt8) × Int))) :=
 cond (decide ((t:Int) < (l_.length:Int)))
 (Option.bind (l_[t]?) fun x_ =>
 cond (manifest_right x_)
 (some (.inl (t+1)))
 (some (.inr (.inr ([],1)))))
 (some (.inr (.inl ())))
noncomputable def manifest_Print_l2 (l_:(List TApiEntry)) (b:(List UInt8)) (t1:Nat):Option (Sum ((List UInt8) × Nat) (Sum (List UInt8) ((List UInt8) × Int))) :=
 cond (decide ((t1:Int) < (l_.length:Int)))
 (Option.bind (l_[t1]?) fun x_1 =>
 Option.bind (manifest_tooLong x_1) fun tooLon =>
 cond tooLon
 (some (.inr (.inr ([],2))))
 (Option.bind (manifest_line b x_1) fun line =>
 Option.bind (manifest_rest line x_1) fun rest =>
 cond (decide ((rest.length:Int) > 1048576))
 (some (.inr (.inr ([],2))))
 (some (.inl (rest,(t1+1))))))
 (some (.inr (.inl b)))
noncomputable def manifest_Print (l_:(List TApiEntry)):Option ((List UInt8) × Int) :=
 cond (decide ((l_.length:Int) > 16384))
 (some ([],3))
 (bnd
 (loopO (fun s => manifest_Print_l1 l_ s) 0) fun _ =>
 bnd
 (loopO (fun s => manifest_Print_l2 l_ s.1 s.2) ([],0)) fun b =>
 some (b,0))
def law27_num (e_:Int):Int :=
 e_
noncomputable def law27_live:Option Bool :=
 Option.bind (manifest_Print [({ Path:=([97,32,98]:List UInt8),Kind:=2,Mode:=493,Uid:=0,Gid:=0,Time:=0,Size:=0,Data:=[],Target:=([]:List UInt8),Dev:=0,Attrs:=[] }:TApiEntry)]) fun print =>
 Option.bind (manifest_Print [({ Path:=([120]:List UInt8),Kind:=1,Mode:=0,Uid:=0,Gid:=0,Time:=0,Size:=3,Data:=[(1:UInt8),(255:UInt8)],Target:=([]:List UInt8),Dev:=0,Attrs:=[] }:TApiEntry)]) fun print1 =>
 cond ((IntKind.i64.wrap ((law27_num print.2)+(law27_num print1.2))) == 0)
 (cond (print.1 == ([100,32,55,53,53,32,48,32,48,32,48,32,97,37,50,48,98,10]:List UInt8))
 (some (print1.1 == ([102,32,48,32,48,32,48,32,48,32,51,32,120,10,61,32,48,49,102,102,10]:List UInt8)))
 (some false))
 (some false)
noncomputable def manifest_text_peek (t:TManifestReader):Option UInt8 :=
 cond (t.f_text.f_e != 0)
 (some (0:UInt8))
 (cond (t.f_text.f_at == (t.f_text.f_b.length:Int))
 (some (0:UInt8))
 (Option.bind (idx t.f_text.f_b t.f_text.f_at) fun x_ =>
 some x_))
noncomputable def manifest_text_fail (t:TManifestReader) (e_:Int) (at_:Int):Option TManifestReader :=
 cond (t.f_text.f_e == 0)
 (some ({ f_text:=({ f_b:=t.f_text.f_b,f_at:=at_,f_e:=e_ }:TManifestText),f_l:=t.f_l,f_full:=t.f_full,f_more:=t.f_more }:TManifestReader))
 (some t)
noncomputable def manifest_text_want (t:TManifestReader) (c:UInt8):Option TManifestReader :=
 Option.bind (manifest_text_peek t) fun peek =>
 cond ((peek.toNat:Int) != (c.toNat:Int))
 (Option.bind (manifest_text_fail t 6 t.f_text.f_at) fun fail =>
 some ({ f_text:=({ f_b:=t.f_text.f_b,f_at:=fail.f_text.f_at,f_e:=fail.f_text.f_e }:TManifestText),f_l:=t.f_l,f_full:=fail.f_full,f_more:=fail.f_more }:TManifestReader))
 (some ({ f_text:=({ f_b:=t.f_text.f_b,f_at:=(IntKind.i64.wrap (t.f_text.f_at+1)),f_e:=t.f_text.f_e }:TManifestText),f_l:=t.f_l,f_full:=t.f_full,f_more:=t.f_more }:TManifestReader))
def manifest_digit (c:UInt8):Int :=
 cond (decide ((c.toNat:Int) ≥ 48))
 (cond (decide ((c.toNat:Int) ≤ 57))
 (((c - (48:UInt8)).toNat:Int))
 (cond (decide ((c.toNat:Int) ≥ 97))
 (cond (decide ((c.toNat:Int) ≤ 102))
 ((((c - (97:UInt8)).toNat:Int)+10))
 ((-1)))
 ((-1))))
 (cond (decide ((c.toNat:Int) ≥ 97))
 (cond (decide ((c.toNat:Int) ≤ 102))
 ((((c - (97:UInt8)).toNat:Int)+10))
 ((-1)))
 ((-1)))
noncomputable def manifest_reader_number_l1 (r_:TManifestReader) (base:Int) (want:TManifestReader) (at_:Int) (n_:Int) (count:Int):Option (Sum (Int × Int × Int) (Sum (Int × Int × Int) (Int × TManifestReader))) :=
 cond (want.f_text.f_e == 0)
 (Option.bind (manifest_text_peek ({ f_text:=({ f_b:=want.f_text.f_b,f_at:=at_,f_e:=want.f_text.f_e }:TManifestText),f_l:=r_.f_l,f_full:=want.f_full,f_more:=want.f_more }:TManifestReader)) fun peek =>
 cond (decide ((manifest_digit peek) < 0))
 (some (.inr (.inl (at_,n_,count))))
 (cond (decide ((manifest_digit peek) ≥ base))
 (some (.inr (.inl (at_,n_,count))))
 (cond (at_ == (want.f_text.f_b.length:Int))
 (some (.inr (.inl (at_,n_,count))))
 (cond (count == 1)
 (cond (n_ == 0)
 (Option.bind (manifest_text_fail ({ f_text:=({ f_b:=want.f_text.f_b,f_at:=at_,f_e:=want.f_text.f_e }:TManifestText),f_l:=r_.f_l,f_full:=want.f_full,f_more:=want.f_more }:TManifestReader) 6 at_) fun fail =>
 some (.inr (.inr (0,({ f_text:=({ f_b:=want.f_text.f_b,f_at:=fail.f_text.f_at,f_e:=fail.f_text.f_e }:TManifestText),f_l:=r_.f_l,f_full:=fail.f_full,f_more:=fail.f_more }:TManifestReader)))))
 (cond (decide (n_ ≤ 1099511627776))
 (some (.inl ((IntKind.i64.wrap (at_+1)),(IntKind.i64.wrap ((IntKind.i64.wrap (n_ * base))+(manifest_digit peek))),(IntKind.i64.wrap (count+1)))))
 (some (.inl ((IntKind.i64.wrap (at_+1)),n_,(IntKind.i64.wrap (count+1)))))))
 (cond (decide (n_ ≤ 1099511627776))
 (some (.inl ((IntKind.i64.wrap (at_+1)),(IntKind.i64.wrap ((IntKind.i64.wrap (n_ * base))+(manifest_digit peek))),(IntKind.i64.wrap (count+1)))))
 (some (.inl ((IntKind.i64.wrap (at_+1)),n_,(IntKind.i64.wrap (count+1))))))))))
 (some (.inr (.inl (at_,n_,count))))
noncomputable def manifest_reader_number (r_:TManifestReader) (base:Int):Option (Int × TManifestReader) :=
 Option.bind (manifest_text_want r_ (32:UInt8)) fun want =>
 bnd
 (loopO (fun s => manifest_reader_number_l1 r_ base want s.1 s.2.1 s.2.2) (want.f_text.f_at,0,0)) fun (at_,n_,count) =>
 cond (count == 0)
 (Option.bind (manifest_text_fail ({ f_text:=({ f_b:=want.f_text.f_b,f_at:=at_,f_e:=want.f_text.f_e }:TManifestText),f_l:=r_.f_l,f_full:=want.f_full,f_more:=want.f_more }:TManifestReader) 6 at_) fun fail1 =>
 some (n_,({ f_text:=({ f_b:=want.f_text.f_b,f_at:=fail1.f_text.f_at,f_e:=fail1.f_text.f_e }:TManifestText),f_l:=r_.f_l,f_full:=fail1.f_full,f_more:=fail1.f_more }:TManifestReader)))
 (cond (decide (n_ > 1099511627776))
 (Option.bind (manifest_text_fail ({ f_text:=({ f_b:=want.f_text.f_b,f_at:=at_,f_e:=want.f_text.f_e }:TManifestText),f_l:=r_.f_l,f_full:=want.f_full,f_more:=want.f_more }:TManifestReader) 9 want.f_text.f_at) fun fail2 =>
 some (n_,({ f_text:=({ f_b:=want.f_text.f_b,f_at:=fail2.f_text.f_at,f_e:=fail2.f_text.f_e }:TManifestText),f_l:=r_.f_l,f_full:=fail2.f_full,f_more:=fail2.f_more }:TManifestReader)))
 (some (n_,({ f_text:=({ f_b:=want.f_text.f_b,f_at:=at_,f_e:=want.f_text.f_e }:TManifestText),f_l:=r_.f_l,f_full:=want.f_full,f_more:=want.f_more }:TManifestReader))))
noncomputable def manifest_reader_pair_l1 (r_:TManifestReader) (at_:Int) (x_:(List Int)) (t:Nat):Option (Sum (Int × (List Int) × Nat) (Sum ((List Int) × Int) (UInt8 × TManifestReader))) :=
 cond (decide ((t:Int) < 2))
 (Option.bind (manifest_text_peek ({ f_text:=({ f_b:=r_.f_text.f_b,f_at:=at_,f_e:=r_.f_text.f_e }:TManifestText),f_l:=r_.f_l,f_full:=r_.f_full,f_more:=r_.f_more }:TManifestReader)) fun peek =>
 Option.bind (idx x_ (t:Int)) fun x_1 =>
 Option.bind (chk (decide ((t:Int) < 2))) fun _ =>
 Option.bind (idx (x_.set ((t:Int).toNat) (manifest_digit peek)) (t:Int)) fun x_2 =>
 Option.bind (chk (decide ((t:Int) < 2))) fun _ =>
 cond (decide (x_2 < 0))
 (Option.bind (manifest_text_fail ({ f_text:=({ f_b:=r_.f_text.f_b,f_at:=at_,f_e:=r_.f_text.f_e }:TManifestText),f_l:=r_.f_l,f_full:=r_.f_full,f_more:=r_.f_more }:TManifestReader) 6 at_) fun fail =>
 some (.inr (.inr ((0:UInt8),({ f_text:=({ f_b:=r_.f_text.f_b,f_at:=fail.f_text.f_at,f_e:=fail.f_text.f_e }:TManifestText),f_l:=r_.f_l,f_full:=fail.f_full,f_more:=fail.f_more }:TManifestReader)))))
 (some (.inl ((IntKind.i64.wrap (at_+1)),(x_.set ((t:Int).toNat) (manifest_digit peek)),(t+1)))))
 (some (.inr (.inl (x_,at_))))
noncomputable def manifest_reader_pair (r_:TManifestReader):Option (UInt8 × TManifestReader) :=
 bnd
 (loopO (fun s => manifest_reader_pair_l1 r_ s.1 s.2.1 s.2.2) (r_.f_text.f_at,(List.replicate 2 (0:Int)),0)) fun (x_,at_) =>
 Option.bind (idx x_ 0) fun x_3 =>
 Option.bind (idx x_ 1) fun x_4 =>
 some ((UInt8.ofInt (Go.bits .or .i64 (shlI x_3 4) x_4)),({ f_text:=({ f_b:=r_.f_text.f_b,f_at:=at_,f_e:=r_.f_text.f_e }:TManifestText),f_l:=r_.f_l,f_full:=r_.f_full,f_more:=r_.f_more }:TManifestReader))
noncomputable def manifest_reader_word_l1 (r_:TManifestReader) (b:(List UInt8)) (at_:Int) (e_:Int) (full:Bool) (more:Bool) (b1:(List UInt8)):Option (Sum ((List UInt8) × Int × Int × Bool × Bool × (List UInt8)) (Sum ((List UInt8) × Int × Int × Bool × Bool) ((List UInt8) × TManifestReader))) :=
 cond (e_ == 0)
 (Option.bind (manifest_text_peek ({ f_text:=({ f_b:=b,f_at:=at_,f_e:=e_ }:TManifestText),f_l:=r_.f_l,f_full:=full,f_more:=more }:TManifestReader)) fun peek =>
 cond (manifest_plain peek)
 (Option.bind (app b1 [peek]) fun b2 =>
 some (.inl (b,(IntKind.i64.wrap (at_+1)),e_,full,more,b2)))
 (cond ((peek.toNat:Int) == 37)
 (cond ((IntKind.i64.wrap (at_+1)) == (IntKind.i64.wrap (r_.f_text.f_at+1)))
 (cond ((IntKind.i64.wrap (at_+1)) == (b.length:Int))
 (some (.inr (.inr (([]:List UInt8),({ f_text:=({ f_b:=b,f_at:=(IntKind.i64.wrap (at_+1)),f_e:=e_ }:TManifestText),f_l:=r_.f_l,f_full:=full,f_more:=more }:TManifestReader)))))
 (Option.bind (manifest_text_peek ({ f_text:=({ f_b:=b,f_at:=(IntKind.i64.wrap (at_+1)),f_e:=e_ }:TManifestText),f_l:=r_.f_l,f_full:=full,f_more:=more }:TManifestReader)) fun peek1 =>
 cond ((peek1.toNat:Int) == 32)
 (some (.inr (.inr (([]:List UInt8),({ f_text:=({ f_b:=b,f_at:=(IntKind.i64.wrap (at_+1)),f_e:=e_ }:TManifestText),f_l:=r_.f_l,f_full:=full,f_more:=more }:TManifestReader)))))
 (Option.bind (manifest_text_peek ({ f_text:=({ f_b:=b,f_at:=(IntKind.i64.wrap (at_+1)),f_e:=e_ }:TManifestText),f_l:=r_.f_l,f_full:=full,f_more:=more }:TManifestReader)) fun peek2 =>
 cond ((peek2.toNat:Int) == 10)
 (some (.inr (.inr (([]:List UInt8),({ f_text:=({ f_b:=b,f_at:=(IntKind.i64.wrap (at_+1)),f_e:=e_ }:TManifestText),f_l:=r_.f_l,f_full:=full,f_more:=more }:TManifestReader)))))
 (Option.bind (manifest_reader_pair ({ f_text:=({ f_b:=b,f_at:=(IntKind.i64.wrap (at_+1)),f_e:=e_ }:TManifestText),f_l:=r_.f_l,f_full:=full,f_more:=more }:TManifestReader)) fun pair =>
 cond (pair.2.f_text.f_e == 0)
 (cond (manifest_plain pair.1)
 (Option.bind (manifest_text_fail ({ f_text:=pair.2.f_text,f_l:=r_.f_l,f_full:=pair.2.f_full,f_more:=pair.2.f_more }:TManifestReader) 6 (IntKind.i64.wrap ((IntKind.i64.wrap (at_+1))+1))) fun fail =>
 Option.bind (app b1 [pair.1]) fun b3 =>
 some (.inl (pair.2.f_text.f_b,fail.f_text.f_at,fail.f_text.f_e,fail.f_full,fail.f_more,b3)))
 (Option.bind (app b1 [pair.1]) fun b4 =>
 some (.inl (pair.2.f_text.f_b,pair.2.f_text.f_at,pair.2.f_text.f_e,pair.2.f_full,pair.2.f_more,b4))))
 (Option.bind (app b1 [pair.1]) fun b5 =>
 some (.inl (pair.2.f_text.f_b,pair.2.f_text.f_at,pair.2.f_text.f_e,pair.2.f_full,pair.2.f_more,b5)))))))
 (Option.bind (manifest_reader_pair ({ f_text:=({ f_b:=b,f_at:=(IntKind.i64.wrap (at_+1)),f_e:=e_ }:TManifestText),f_l:=r_.f_l,f_full:=full,f_more:=more }:TManifestReader)) fun pair1 =>
 cond (pair1.2.f_text.f_e == 0)
 (cond (manifest_plain pair1.1)
 (Option.bind (manifest_text_fail ({ f_text:=pair1.2.f_text,f_l:=r_.f_l,f_full:=pair1.2.f_full,f_more:=pair1.2.f_more }:TManifestReader) 6 (IntKind.i64.wrap ((IntKind.i64.wrap (at_+1))+1))) fun fail1 =>
 Option.bind (app b1 [pair1.1]) fun b6 =>
 some (.inl (pair1.2.f_text.f_b,fail1.f_text.f_at,fail1.f_text.f_e,fail1.f_full,fail1.f_more,b6)))
 (Option.bind (app b1 [pair1.1]) fun b7 =>
 some (.inl (pair1.2.f_text.f_b,pair1.2.f_text.f_at,pair1.2.f_text.f_e,pair1.2.f_full,pair1.2.f_more,b7))))
 (Option.bind (app b1 [pair1.1]) fun b8 =>
 some (.inl (pair1.2.f_text.f_b,pair1.2.f_text.f_at,pair1.2.f_text.f_e,pair1.2.f_full,pair1.2.f_more,b8)))))
 (cond (at_ == r_.f_text.f_at)
 (Option.bind (manifest_text_fail ({ f_text:=({ f_b:=b,f_at:=at_,f_e:=e_ }:TManifestText),f_l:=r_.f_l,f_full:=full,f_more:=more }:TManifestReader) 6 at_) fun fail2 =>
 some (.inr (.inr (b1,({ f_text:=({ f_b:=b,f_at:=fail2.f_text.f_at,f_e:=fail2.f_text.f_e }:TManifestText),f_l:=r_.f_l,f_full:=fail2.f_full,f_more:=fail2.f_more }:TManifestReader)))))
 (some (.inr (.inr (b1,({ f_text:=({ f_b:=b,f_at:=at_,f_e:=e_ }:TManifestText),f_l:=r_.f_l,f_full:=full,f_more:=more }:TManifestReader))))))))
 (some (.inr (.inl (b,at_,e_,full,more))))
noncomputable def manifest_reader_word (r_:TManifestReader):Option ((List UInt8) × TManifestReader) :=
 bnd
 (loopO (fun s => manifest_reader_word_l1 r_ s.1 s.2.1 s.2.2.1 s.2.2.2.1 s.2.2.2.2.1 s.2.2.2.2.2) (r_.f_text.f_b,r_.f_text.f_at,r_.f_text.f_e,r_.f_full,r_.f_more,[])) fun (b,at_,e_,full,more) =>
 some (([]:List UInt8),({ f_text:=({ f_b:=b,f_at:=at_,f_e:=e_ }:TManifestText),f_l:=r_.f_l,f_full:=full,f_more:=more }:TManifestReader))
noncomputable def manifest_reader_entry (r_:TManifestReader) (kind:Int):Option TManifestReader :=
 cond ((r_.f_l.length:Int) == 16384)
 (Option.bind (manifest_text_fail r_ 3 r_.f_text.f_at) fun fail =>
 some ({ f_text:=({ f_b:=r_.f_text.f_b,f_at:=fail.f_text.f_at,f_e:=fail.f_text.f_e }:TManifestText),f_l:=r_.f_l,f_full:=fail.f_full,f_more:=fail.f_more }:TManifestReader))
 (Option.bind
 (cond (kind != 6)
 (Option.bind (manifest_reader_number ({ f_text:=({ f_b:=r_.f_text.f_b,f_at:=(IntKind.i64.wrap (r_.f_text.f_at+1)),f_e:=r_.f_text.f_e }:TManifestText),f_l:=r_.f_l,f_full:=r_.f_full,f_more:=r_.f_more }:TManifestReader) 8) fun number =>
 Option.bind (manifest_reader_number ({ f_text:=number.2.f_text,f_l:=r_.f_l,f_full:=number.2.f_full,f_more:=number.2.f_more }:TManifestReader) 10) fun number1 =>
 Option.bind (manifest_reader_number ({ f_text:=number1.2.f_text,f_l:=r_.f_l,f_full:=number1.2.f_full,f_more:=number1.2.f_more }:TManifestReader) 10) fun number2 =>
 Option.bind (manifest_reader_number ({ f_text:=number2.2.f_text,f_l:=r_.f_l,f_full:=number2.2.f_full,f_more:=number2.2.f_more }:TManifestReader) 10) fun number3 =>
 some (number3.2.f_text.f_b,number3.2.f_text.f_at,number3.2.f_text.f_e,number3.2.f_full,number3.2.f_more,number.1,number1.1,number2.1,number3.1))
 (some (r_.f_text.f_b,(IntKind.i64.wrap (r_.f_text.f_at+1)),r_.f_text.f_e,r_.f_full,r_.f_more,0,0,0,0))) fun (b,at_,e_,full,more,Mode,Uid,Gid,Time) =>
 Option.bind
 (cond (kind == 1)
 (Option.bind (manifest_reader_number ({ f_text:=({ f_b:=b,f_at:=at_,f_e:=e_ }:TManifestText),f_l:=r_.f_l,f_full:=full,f_more:=more }:TManifestReader) 10) fun number4 =>
 some (number4.2.f_text.f_b,number4.2.f_text.f_at,number4.2.f_text.f_e,number4.2.f_full,number4.2.f_more,number4.1,0))
 (cond (kind == 4)
 (Option.bind (manifest_reader_number ({ f_text:=({ f_b:=b,f_at:=at_,f_e:=e_ }:TManifestText),f_l:=r_.f_l,f_full:=full,f_more:=more }:TManifestReader) 10) fun number5 =>
 some (number5.2.f_text.f_b,number5.2.f_text.f_at,number5.2.f_text.f_e,number5.2.f_full,number5.2.f_more,0,number5.1))
 (cond (kind == 5)
 (Option.bind (manifest_reader_number ({ f_text:=({ f_b:=b,f_at:=at_,f_e:=e_ }:TManifestText),f_l:=r_.f_l,f_full:=full,f_more:=more }:TManifestReader) 10) fun number6 =>
 some (number6.2.f_text.f_b,number6.2.f_text.f_at,number6.2.f_text.f_e,number6.2.f_full,number6.2.f_more,0,number6.1))
 (some (b,at_,e_,full,more,0,0))))) fun (b1,at_1,e_1,full1,more1,Size,Dev) =>
 Option.bind (manifest_text_want ({ f_text:=({ f_b:=b1,f_at:=at_1,f_e:=e_1 }:TManifestText),f_l:=r_.f_l,f_full:=full1,f_more:=more1 }:TManifestReader) (32:UInt8)) fun want =>
 Option.bind (manifest_reader_word ({ f_text:=want.f_text,f_l:=r_.f_l,f_full:=want.f_full,f_more:=want.f_more }:TManifestReader)) fun word_ =>
 lt_
 (cond (kind == 3)
 (true)
 ((kind == 6))) fun t =>
 cond t
 (Option.bind (manifest_text_want ({ f_text:=word_.2.f_text,f_l:=r_.f_l,f_full:=word_.2.f_full,f_more:=word_.2.f_more }:TManifestReader) (32:UInt8)) fun want1 =>
 Option.bind (manifest_reader_word ({ f_text:=want1.f_text,f_l:=r_.f_l,f_full:=want1.f_full,f_more:=want1.f_more }:TManifestReader)) fun word_1 =>
 Option.bind (manifest_text_want ({ f_text:=word_1.2.f_text,f_l:=r_.f_l,f_full:=word_1.2.f_full,f_more:=word_1.2.f_more }:TManifestReader) (10:UInt8)) fun want2 =>
 Option.bind (app r_.f_l [({ Path:=word_.1,Kind:=kind,Mode:=Mode,Uid:=Uid,Gid:=Gid,Time:=Time,Size:=Size,Data:=[],Target:=word_1.1,Dev:=Dev,Attrs:=[] }:TApiEntry)]) fun b2 =>
 some ({ f_text:=want2.f_text,f_l:=b2,f_full:=(kind == 1),f_more:=(kind != 6) }:TManifestReader))
 (Option.bind (manifest_text_want ({ f_text:=word_.2.f_text,f_l:=r_.f_l,f_full:=word_.2.f_full,f_more:=word_.2.f_more }:TManifestReader) (10:UInt8)) fun want3 =>
 Option.bind (app r_.f_l [({ Path:=word_.1,Kind:=kind,Mode:=Mode,Uid:=Uid,Gid:=Gid,Time:=Time,Size:=Size,Data:=[],Target:=([]:List UInt8),Dev:=Dev,Attrs:=[] }:TApiEntry)]) fun b3 =>
 some ({ f_text:=want3.f_text,f_l:=b3,f_full:=(kind == 1),f_more:=(kind != 6) }:TManifestReader)))
noncomputable def manifest_reader_data_l1 (r_:TManifestReader) (x_:TApiEntry) (b:(List UInt8)) (at_:Int) (e_:Int) (Data:(List UInt8)) (full:Bool) (more:Bool) (n_:Nat):Option (Sum ((List UInt8) × Int × Int × (List UInt8) × Bool × Bool × Nat) ((List UInt8) × Int × Int × (List UInt8) × (List UInt8) × (List UInt8) × (List TApiAttr) × Bool × Bool × Nat)) :=
 cond (decide ((n_:Int) < 32))
 (cond ((n_:Int) == 0)
 (cond (e_ == 0)
 (Option.bind (manifest_reader_pair ({ f_text:=({ f_b:=b,f_at:=at_,f_e:=e_ }:TManifestText),f_l:=r_.f_l,f_full:=full,f_more:=more }:TManifestReader)) fun pair =>
 Option.bind (app Data [pair.1]) fun b1 =>
 some (.inl (pair.2.f_text.f_b,pair.2.f_text.f_at,pair.2.f_text.f_e,b1,pair.2.f_full,pair.2.f_more,(n_+1))))
 (some (.inr (b,at_,e_,x_.Path,Data,x_.Target,x_.Attrs,full,more,n_))))
 (Option.bind (manifest_text_peek ({ f_text:=({ f_b:=b,f_at:=at_,f_e:=e_ }:TManifestText),f_l:=r_.f_l,f_full:=full,f_more:=more }:TManifestReader)) fun peek =>
 cond ((peek.toNat:Int) != 10)
 (cond (e_ == 0)
 (Option.bind (manifest_reader_pair ({ f_text:=({ f_b:=b,f_at:=at_,f_e:=e_ }:TManifestText),f_l:=r_.f_l,f_full:=full,f_more:=more }:TManifestReader)) fun pair1 =>
 Option.bind (app Data [pair1.1]) fun b2 =>
 some (.inl (pair1.2.f_text.f_b,pair1.2.f_text.f_at,pair1.2.f_text.f_e,b2,pair1.2.f_full,pair1.2.f_more,(n_+1))))
 (some (.inr (b,at_,e_,x_.Path,Data,x_.Target,x_.Attrs,full,more,n_))))
 (some (.inr (b,at_,e_,x_.Path,Data,x_.Target,x_.Attrs,full,more,n_)))))
 (some (.inr (b,at_,e_,x_.Path,Data,x_.Target,x_.Attrs,full,more,n_)))
noncomputable def manifest_reader_data (r_:TManifestReader):Option TManifestReader :=
 Option.bind (manifest_text_want ({ f_text:=({ f_b:=r_.f_text.f_b,f_at:=(IntKind.i64.wrap (r_.f_text.f_at+1)),f_e:=r_.f_text.f_e }:TManifestText),f_l:=r_.f_l,f_full:=r_.f_full,f_more:=r_.f_more }:TManifestReader) (32:UInt8)) fun want =>
 Option.bind (idx r_.f_l (IntKind.i64.wrap ((r_.f_l.length:Int) - 1))) fun x_ =>
 Option.bind
 (loopO (fun s => manifest_reader_data_l1 r_ x_ s.1 s.2.1 s.2.2.1 s.2.2.2.1 s.2.2.2.2.1 s.2.2.2.2.2.1 s.2.2.2.2.2.2) (want.f_text.f_b,want.f_text.f_at,want.f_text.f_e,x_.Data,want.f_full,want.f_more,0)) fun (b,at_,e_,Path,Data,Target,Attrs,full,more,n_) =>
 Option.bind (manifest_text_want ({ f_text:=({ f_b:=b,f_at:=at_,f_e:=e_ }:TManifestText),f_l:=r_.f_l,f_full:=full,f_more:=more }:TManifestReader) (10:UInt8)) fun want1 =>
 lt_ (r_.f_l.set ((IntKind.i64.wrap ((r_.f_l.length:Int) - 1)).toNat) ({ Path:=Path,Kind:=x_.Kind,Mode:=x_.Mode,Uid:=x_.Uid,Gid:=x_.Gid,Time:=x_.Time,Size:=x_.Size,Data:=Data,Target:=Target,Dev:=x_.Dev,Attrs:=Attrs }:TApiEntry)) fun l_ =>
 some ({ f_text:=want1.f_text,f_l:=l_,f_full:=((n_:Int) == 32),f_more:=want1.f_more }:TManifestReader)
noncomputable def manifest_reader_attr_l1 (r_:TManifestReader) (b:(List UInt8)) (at_:Int) (e_:Int) (full:Bool) (more:Bool) (Value:(List UInt8)) (first:Bool):Option (Sum ((List UInt8) × Int × Int × Bool × Bool × (List UInt8) × Bool) ((List UInt8) × Int × Int × Bool × Bool × (List UInt8))) :=
 cond (e_ == 0)
 (cond first
 (Option.bind (manifest_reader_pair ({ f_text:=({ f_b:=b,f_at:=at_,f_e:=e_ }:TManifestText),f_l:=r_.f_l,f_full:=full,f_more:=more }:TManifestReader)) fun pair =>
 Option.bind (app Value [pair.1]) fun b1 =>
 some (.inl (pair.2.f_text.f_b,pair.2.f_text.f_at,pair.2.f_text.f_e,pair.2.f_full,pair.2.f_more,b1,false)))
 (Option.bind (manifest_text_peek ({ f_text:=({ f_b:=b,f_at:=at_,f_e:=e_ }:TManifestText),f_l:=r_.f_l,f_full:=full,f_more:=more }:TManifestReader)) fun peek1 =>
 cond ((peek1.toNat:Int) != 10)
 (Option.bind (manifest_reader_pair ({ f_text:=({ f_b:=b,f_at:=at_,f_e:=e_ }:TManifestText),f_l:=r_.f_l,f_full:=full,f_more:=more }:TManifestReader)) fun pair1 =>
 Option.bind (app Value [pair1.1]) fun b2 =>
 some (.inl (pair1.2.f_text.f_b,pair1.2.f_text.f_at,pair1.2.f_text.f_e,pair1.2.f_full,pair1.2.f_more,b2,false)))
 (some (.inr (b,at_,e_,full,more,Value)))))
 (some (.inr (b,at_,e_,full,more,Value)))
noncomputable def manifest_reader_attr (r_:TManifestReader):Option TManifestReader :=
 Option.bind (manifest_text_want ({ f_text:=({ f_b:=r_.f_text.f_b,f_at:=(IntKind.i64.wrap (r_.f_text.f_at+1)),f_e:=r_.f_text.f_e }:TManifestText),f_l:=r_.f_l,f_full:=r_.f_full,f_more:=r_.f_more }:TManifestReader) (32:UInt8)) fun want =>
 Option.bind (manifest_reader_word ({ f_text:=want.f_text,f_l:=r_.f_l,f_full:=want.f_full,f_more:=want.f_more }:TManifestReader)) fun word_ =>
 Option.bind (manifest_text_peek ({ f_text:=word_.2.f_text,f_l:=r_.f_l,f_full:=word_.2.f_full,f_more:=word_.2.f_more }:TManifestReader)) fun peek =>
 cond ((peek.toNat:Int) == 32)
 (Option.bind
 (loopO (fun s => manifest_reader_attr_l1 r_ s.1 s.2.1 s.2.2.1 s.2.2.2.1 s.2.2.2.2.1 s.2.2.2.2.2.1 s.2.2.2.2.2.2) (word_.2.f_text.f_b,(IntKind.i64.wrap (word_.2.f_text.f_at+1)),word_.2.f_text.f_e,word_.2.f_full,word_.2.f_more,[],true)) fun (b,at_,e_,full,more,Value) =>
 Option.bind (manifest_text_want ({ f_text:=({ f_b:=b,f_at:=at_,f_e:=e_ }:TManifestText),f_l:=r_.f_l,f_full:=full,f_more:=more }:TManifestReader) (10:UInt8)) fun want1 =>
 Option.bind (idx r_.f_l (IntKind.i64.wrap ((r_.f_l.length:Int) - 1))) fun x_ =>
 Option.bind (app x_.Attrs [({ Name:=word_.1,Value:=Value }:TApiAttr)]) fun b3 =>
 lt_ (r_.f_l.set ((IntKind.i64.wrap ((r_.f_l.length:Int) - 1)).toNat) ({ Path:=x_.Path,Kind:=x_.Kind,Mode:=x_.Mode,Uid:=x_.Uid,Gid:=x_.Gid,Time:=x_.Time,Size:=x_.Size,Data:=x_.Data,Target:=x_.Target,Dev:=x_.Dev,Attrs:=b3 }:TApiEntry)) fun l_ =>
 some ({ f_text:=want1.f_text,f_l:=l_,f_full:=false,f_more:=want1.f_more }:TManifestReader))
 (Option.bind (manifest_text_want ({ f_text:=word_.2.f_text,f_l:=r_.f_l,f_full:=word_.2.f_full,f_more:=word_.2.f_more }:TManifestReader) (10:UInt8)) fun want2 =>
 Option.bind (idx r_.f_l (IntKind.i64.wrap ((r_.f_l.length:Int) - 1))) fun x_1 =>
 Option.bind (app x_1.Attrs [({ Name:=word_.1,Value:=[] }:TApiAttr)]) fun b4 =>
 lt_ (r_.f_l.set ((IntKind.i64.wrap ((r_.f_l.length:Int) - 1)).toNat) ({ Path:=x_1.Path,Kind:=x_1.Kind,Mode:=x_1.Mode,Uid:=x_1.Uid,Gid:=x_1.Gid,Time:=x_1.Time,Size:=x_1.Size,Data:=x_1.Data,Target:=x_1.Target,Dev:=x_1.Dev,Attrs:=b4 }:TApiEntry)) fun l_1 =>
 some ({ f_text:=want2.f_text,f_l:=l_1,f_full:=false,f_more:=want2.f_more }:TManifestReader))
noncomputable def manifest_reader_next_l1 (r_:TManifestReader) (peek:UInt8) (t:Nat):Option (Sum Nat (Sum Unit TManifestReader)) :=
 cond (decide ((t:Int) < 6))
 (Option.bind (idx ([102,100,108,98,99,104]:List UInt8) (t:Int)) fun c =>
 cond ((c.toNat:Int) == (peek.toNat:Int))
 (Option.bind (manifest_reader_entry r_ ((t:Int)+1)) fun entry =>
 some (.inr (.inr entry)))
 (some (.inl (t+1))))
 (some (.inr (.inl ())))
noncomputable def manifest_reader_next (r_:TManifestReader):Option TManifestReader :=
 Option.bind (manifest_text_peek r_) fun peek =>
 bnd
 (loopO (fun s => manifest_reader_next_l1 r_ peek s) 0) fun _ =>
 cond ((peek.toNat:Int) == 61)
 (cond r_.f_full
 (Option.bind (manifest_reader_data r_) fun data =>
 some data)
 (Option.bind (manifest_text_fail r_ 6 r_.f_text.f_at) fun fail =>
 some ({ f_text:=({ f_b:=r_.f_text.f_b,f_at:=fail.f_text.f_at,f_e:=fail.f_text.f_e }:TManifestText),f_l:=r_.f_l,f_full:=fail.f_full,f_more:=fail.f_more }:TManifestReader)))
 (cond ((peek.toNat:Int) == 64)
 (cond r_.f_more
 (Option.bind (manifest_reader_attr r_) fun attr =>
 some attr)
 (Option.bind (manifest_text_fail r_ 6 r_.f_text.f_at) fun fail1 =>
 some ({ f_text:=({ f_b:=r_.f_text.f_b,f_at:=fail1.f_text.f_at,f_e:=fail1.f_text.f_e }:TManifestText),f_l:=r_.f_l,f_full:=fail1.f_full,f_more:=fail1.f_more }:TManifestReader)))
 (Option.bind (manifest_text_fail r_ 6 r_.f_text.f_at) fun fail2 =>
 some ({ f_text:=({ f_b:=r_.f_text.f_b,f_at:=fail2.f_text.f_at,f_e:=fail2.f_text.f_e }:TManifestText),f_l:=r_.f_l,f_full:=fail2.f_full,f_more:=fail2.f_more }:TManifestReader)))
noncomputable def manifest_Parse_l1 (b:(List UInt8)) (b1:(List UInt8)) (at_:Int) (e_:Int) (l_:(List TApiEntry)) (full:Bool) (more:Bool):Option (Sum ((List UInt8) × Int × Int × (List TApiEntry) × Bool × Bool) ((List UInt8) × Int × Int × (List TApiEntry) × Bool × Bool)) :=
 cond (e_ == 0)
 (cond (decide (at_ < (b.length:Int)))
 (Option.bind (manifest_reader_next ({ f_text:=({ f_b:=b1,f_at:=at_,f_e:=e_ }:TManifestText),f_l:=l_,f_full:=full,f_more:=more }:TManifestReader)) fun next_ =>
 some (.inl (next_.f_text.f_b,next_.f_text.f_at,next_.f_text.f_e,next_.f_l,next_.f_full,next_.f_more)))
 (some (.inr (b1,at_,e_,l_,full,more))))
 (some (.inr (b1,at_,e_,l_,full,more)))
noncomputable def manifest_Parse (b:(List UInt8)):Option ((List TApiEntry) × Int × Int) :=
 cond (decide ((b.length:Int) > 1048576))
 (some ([],2,0))
 (Option.bind
 (loopO (fun s => manifest_Parse_l1 b s.1 s.2.1 s.2.2.1 s.2.2.2.1 s.2.2.2.2.1 s.2.2.2.2.2) (b,0,0,[],false,false)) fun (b1,at_,e_,l_,full,more) =>
 cond (e_ != 0)
 (some ([],e_,at_))
 (some (l_,0,(b.length:Int))))
def ref27_Told (x_:TApiEntry):TApiEntry :=
 cond (x_.Kind == 6)
 (({ Path:=x_.Path,Kind:=6,Mode:=0,Uid:=0,Gid:=0,Time:=0,Size:=0,Data:=[],Target:=x_.Target,Dev:=0,Attrs:=[] }:TApiEntry))
 (cond (x_.Kind == 1)
 (cond (decide (x_.Kind > 3))
 (({ Path:=x_.Path,Kind:=x_.Kind,Mode:=x_.Mode,Uid:=x_.Uid,Gid:=x_.Gid,Time:=x_.Time,Size:=x_.Size,Data:=x_.Data,Target:=([]:List UInt8),Dev:=x_.Dev,Attrs:=x_.Attrs }:TApiEntry))
 (({ Path:=x_.Path,Kind:=x_.Kind,Mode:=x_.Mode,Uid:=x_.Uid,Gid:=x_.Gid,Time:=x_.Time,Size:=x_.Size,Data:=x_.Data,Target:=([]:List UInt8),Dev:=0,Attrs:=x_.Attrs }:TApiEntry)))
 (cond (x_.Kind == 3)
 (cond (decide (x_.Kind > 3))
 (({ Path:=x_.Path,Kind:=x_.Kind,Mode:=x_.Mode,Uid:=x_.Uid,Gid:=x_.Gid,Time:=x_.Time,Size:=0,Data:=[],Target:=x_.Target,Dev:=x_.Dev,Attrs:=x_.Attrs }:TApiEntry))
 (({ Path:=x_.Path,Kind:=x_.Kind,Mode:=x_.Mode,Uid:=x_.Uid,Gid:=x_.Gid,Time:=x_.Time,Size:=0,Data:=[],Target:=x_.Target,Dev:=0,Attrs:=x_.Attrs }:TApiEntry)))
 (cond (decide (x_.Kind > 3))
 (({ Path:=x_.Path,Kind:=x_.Kind,Mode:=x_.Mode,Uid:=x_.Uid,Gid:=x_.Gid,Time:=x_.Time,Size:=0,Data:=[],Target:=([]:List UInt8),Dev:=x_.Dev,Attrs:=x_.Attrs }:TApiEntry))
 (({ Path:=x_.Path,Kind:=x_.Kind,Mode:=x_.Mode,Uid:=x_.Uid,Gid:=x_.Gid,Time:=x_.Time,Size:=0,Data:=[],Target:=([]:List UInt8),Dev:=0,Attrs:=x_.Attrs }:TApiEntry)))))
noncomputable def ref11_SameAttrs_l1 (a:(List TApiAttr)) (b:(List TApiAttr)) (i:Nat):Option (Sum Nat (Sum Unit Bool)) :=
 cond (decide ((i:Int) < (a.length:Int)))
 (Option.bind (a[i]?) fun x_ =>
 Option.bind (b[i]?) fun x_1 =>
 cond (x_.Name != x_1.Name)
 (some (.inr (.inr false)))
 (cond (x_.Value != x_1.Value)
 (some (.inr (.inr false)))
 (some (.inl (i+1)))))
 (some (.inr (.inl ())))
noncomputable def ref11_SameAttrs (a:(List TApiAttr)) (b:(List TApiAttr)):Option Bool :=
 cond ((a.length:Int) != (b.length:Int))
 (some false)
 (bnd
 (loopO (fun s => ref11_SameAttrs_l1 a b s) 0) fun _ =>
 some true)
noncomputable def ref11_SameEntries_l1 (a:(List TApiEntry)) (b:(List TApiEntry)) (i:Nat):Option (Sum Nat (Sum Unit Bool)) :=
 cond (decide ((i:Int) < (a.length:Int)))
 (Option.bind
 (Option.bind (a[i]?) fun x_ =>
 Option.bind (b[i]?) fun x_1 =>
 some (x_.Path,x_.Kind,x_.Mode,x_.Uid,x_.Gid,x_.Time,x_.Size,x_.Data,x_.Target,x_.Dev,x_.Attrs,x_1.Path,x_1.Kind,x_1.Mode,x_1.Uid,x_1.Gid,x_1.Time,x_1.Size,x_1.Data,x_1.Target,x_1.Dev,x_1.Attrs)) fun (Path,Kind,Mode,Uid,Gid,Time,Size,Data,Target,Dev,Attrs,Path1,Kind1,Mode1,Uid1,Gid1,Time1,Size1,Data1,Target1,Dev1,Attrs1) =>
 Option.bind
 (cond (Path != Path1)
 (some true)
 (cond (Kind != Kind1)
 (some true)
 (cond (Mode != Mode1)
 (some true)
 (cond (Uid != Uid1)
 (some true)
 (cond (Gid != Gid1)
 (some true)
 (cond (Time != Time1)
 (some true)
 (cond (Size != Size1)
 (some true)
 (cond (Data != Data1)
 (some true)
 (cond (Target != Target1)
 (some true)
 (cond (Dev != Dev1)
 (some true)
 (Option.bind (ref11_SameAttrs Attrs Attrs1) fun sameAt =>
 some (!sameAt)))))))))))) fun t =>
 cond t
 (some (.inr (.inr false)))
 (some (.inl (i+1))))
 (some (.inr (.inl ())))
noncomputable def ref11_SameEntries (a:(List TApiEntry)) (b:(List TApiEntry)):Option Bool :=
 cond ((a.length:Int) != (b.length:Int))
 (some false)
 (bnd
 (loopO (fun s => ref11_SameEntries_l1 a b s) 0) fun _ =>
 some true)
noncomputable def ref27_Same_l1 (a:(List TApiEntry)) (b:(List TApiEntry)) (told1:Bool) (i:Nat):Option (Sum (Bool × Nat) (Sum Unit Bool)) :=
 cond (decide ((i:Int) < (a.length:Int)))
 (Option.bind
 (Option.bind (a[i]?) fun x_ =>
 Option.bind (b[i]?) fun x_1 =>
 some (x_.Path,x_.Kind,x_.Mode,x_.Uid,x_.Gid,x_.Time,x_.Size,x_.Data,x_.Target,x_.Dev,x_.Attrs,x_1.Path,x_1.Kind,x_1.Mode,x_1.Uid,x_1.Gid,x_1.Time,x_1.Size,x_1.Data,x_1.Target,x_1.Dev,x_1.Attrs)) fun (Path,Kind,Mode,Uid,Gid,Time,Size,Data,Target,Dev,Attrs,Path1,Kind1,Mode1,Uid1,Gid1,Time1,Size1,Data1,Target1,Dev1,Attrs1) =>
 cond told1
 (Option.bind (ref11_SameEntries [(ref27_Told ({ Path:=Path,Kind:=Kind,Mode:=Mode,Uid:=Uid,Gid:=Gid,Time:=Time,Size:=Size,Data:=Data,Target:=Target,Dev:=Dev,Attrs:=Attrs }:TApiEntry))] [(ref27_Told ({ Path:=Path1,Kind:=Kind1,Mode:=Mode1,Uid:=Uid1,Gid:=Gid1,Time:=Time1,Size:=Size1,Data:=Data1,Target:=Target1,Dev:=Dev1,Attrs:=Attrs1 }:TApiEntry))]) fun sameEn =>
 cond sameEn
 (some (.inl (true,(i+1))))
 (some (.inr (.inr false))))
 (Option.bind (ref11_SameEntries [({ Path:=Path,Kind:=Kind,Mode:=Mode,Uid:=Uid,Gid:=Gid,Time:=Time,Size:=Size,Data:=Data,Target:=Target,Dev:=Dev,Attrs:=Attrs }:TApiEntry)] [({ Path:=Path1,Kind:=Kind1,Mode:=Mode1,Uid:=Uid1,Gid:=Gid1,Time:=Time1,Size:=Size1,Data:=Data1,Target:=Target1,Dev:=Dev1,Attrs:=Attrs1 }:TApiEntry)]) fun sameEn1 =>
 cond sameEn1
 (some (.inl (false,(i+1))))
 (some (.inr (.inr false)))))
 (some (.inr (.inl ())))
noncomputable def ref27_Same (a:(List TApiEntry)) (b:(List TApiEntry)) (told:Bool):Option Bool :=
 cond ((a.length:Int) != (b.length:Int))
 (some false)
 (bnd
 (loopO (fun s => ref27_Same_l1 a b s.1 s.2) (told,0)) fun _ =>
 some true)
noncomputable def law27_ManifestBack (l_:(List TApiEntry)) (b:(List UInt8)):Option Bool :=
 Option.bind (ref11_Much l_) fun much =>
 cond much
 (Option.bind law27_live fun live =>
 some live)
 (cond (decide ((b.length:Int) > 5000))
 (Option.bind law27_live fun live1 =>
 some live1)
 (Option.bind (manifest_Print l_) fun print =>
 bnd
 (cond ((law27_num print.2) == 0)
 (Option.bind (manifest_Parse print.1) fun parse =>
 cond ((law27_num parse.2.1) != 0)
 (some (.inr false))
 (cond (parse.2.2 != (print.1.length:Int))
 (some (.inr false))
 (Option.bind (ref27_Same l_ parse.1 true) fun same =>
 cond same
 (some (.inl ()))
 (some (.inr false)))))
 (cond ((print.1.length:Int) != 0)
 (some (.inr false))
 (some (.inl ())))) fun _ =>
 Option.bind (manifest_Parse b) fun parse1 =>
 cond ((law27_num parse1.2.1) != 0)
 (cond ((parse1.1.length:Int) == 0)
 (cond (decide (parse1.2.2 ≥ 0))
 (cond (decide (parse1.2.2 ≤ (b.length:Int)))
 (Option.bind law27_live fun live2 =>
 some live2)
 (some false))
 (some false))
 (some false))
 (Option.bind (manifest_Print parse1.1) fun print1 =>
 cond ((law27_num print1.2) == 0)
 (cond (print1.1 == b)
 (Option.bind law27_live fun live3 =>
 some live3)
 (some false))
 (some false))))
def ref27_in (n_:Int):Bool :=
 cond (decide (n_ ≥ 0))
 ((decide (n_ ≤ 1099511627776)))
 (false)
def ref27_Right (x_:TApiEntry):Bool :=
 cond (x_.Kind == 6)
 (true)
 (cond (decide (x_.Kind < 1))
 (false)
 (cond (decide (x_.Kind > 5))
 (false)
 (cond (ref27_in x_.Mode)
 (cond (ref27_in x_.Uid)
 (cond (ref27_in x_.Gid)
 (cond (ref27_in x_.Time)
 (cond (x_.Kind != 1)
 (cond (decide (x_.Kind < 4))
 (true)
 ((ref27_in x_.Dev)))
 (cond (ref27_in x_.Size)
 (cond (decide (x_.Kind < 4))
 (true)
 ((ref27_in x_.Dev)))
 (false)))
 (false))
 (false))
 (false))
 (false))))
noncomputable def ref27_Digits_l1 (base:Int) (n_1:Int) (s_:(List UInt8)):Option (Sum (Int × (List UInt8)) (List UInt8)) :=
 Option.bind (chk (decide (base ≠ 0))) fun _ =>
 Option.bind (idx ([48,49,50,51,52,53,54,55,56,57,97,98,99,100,101,102]:List UInt8) (Int.tmod n_1 base)) fun c =>
 Option.bind (cat [c] s_) fun s_1 =>
 Option.bind (chk (decide (base ≠ 0))) fun _ =>
 cond ((IntKind.i64.wrap (Int.tdiv n_1 base)) == 0)
 (some (.inr s_1))
 (some (.inl ((IntKind.i64.wrap (Int.tdiv n_1 base)),s_1)))
noncomputable def ref27_Digits (n_:Int) (base:Int):Option (List UInt8) :=
 loopO (fun s => ref27_Digits_l1 base s.1 s.2) (n_,([]:List UInt8))
def ref27_plain (c:UInt8):Bool :=
 cond (decide ((c.toNat:Int) ≥ 33))
 (cond (decide ((c.toNat:Int) ≤ 126))
 (((c.toNat:Int) != 37))
 (false))
 (false)
noncomputable def ref27_two (c:UInt8):Option (List UInt8) :=
 Option.bind (idx ([48,49,50,51,52,53,54,55,56,57,97,98,99,100,101,102]:List UInt8) ((c / (16:UInt8)).toNat:Int)) fun c1 =>
 Option.bind (idx ([48,49,50,51,52,53,54,55,56,57,97,98,99,100,101,102]:List UInt8) ((c % (16:UInt8)).toNat:Int)) fun c2 =>
 some [c1,c2]
noncomputable def ref27_Quote_l1 (s_:(List UInt8)) (b:(List UInt8)) (i:Nat):Option (Sum ((List UInt8) × Nat) (List UInt8)) :=
 cond (decide ((i:Int) < (s_.length:Int)))
 (Option.bind (idx s_ (i:Int)) fun c =>
 cond (ref27_plain c)
 (Option.bind (app b [c]) fun b1 =>
 some (.inl (b1,(i+1))))
 (Option.bind (app b [(37:UInt8)]) fun b2 =>
 Option.bind (ref27_two c) fun two =>
 Option.bind (app b2 two) fun b3 =>
 some (.inl (b3,(i+1)))))
 (some (.inr b))
noncomputable def ref27_Quote (s_:(List UInt8)):Option (List UInt8) :=
 cond (s_ == ([]:List UInt8))
 (some ([37]:List UInt8))
 (Option.bind
 (loopO (fun s => ref27_Quote_l1 s_ s.1 s.2) ([],0)) fun b =>
 some b)
noncomputable def ref27_hex_l1 (x_:(List UInt8)) (b:(List UInt8)) (i:Nat):Option (Sum ((List UInt8) × Nat) (List UInt8)) :=
 cond (decide ((i:Int) < (x_.length:Int)))
 (Option.bind (x_[i]?) fun x_1 =>
 Option.bind (ref27_two x_1) fun two =>
 Option.bind (app b two) fun b1 =>
 some (.inl (b1,(i+1))))
 (some (.inr b))
noncomputable def ref27_hex (x_:(List UInt8)):Option (List UInt8) :=
 Option.bind
 (loopO (fun s => ref27_hex_l1 x_ s.1 s.2) ([],0)) fun b =>
 some b
noncomputable def ref27_Lines_l1 (x_:TApiEntry) (s_17:(List UInt8)) (i:Int):Option (Sum ((List UInt8) × Int) (List UInt8)) :=
 lt_
 (cond (decide (i < (x_.Data.length:Int)))
 ((x_.Kind == 1))
 (false)) fun t2 =>
 cond t2
 (cond (decide ((IntKind.i64.wrap (i+32)) > (x_.Data.length:Int)))
 (Option.bind (cat s_17 ([61,32]:List UInt8)) fun s_18 =>
 Option.bind (slc x_.Data i (x_.Data.length:Int)) fun y_ =>
 Option.bind (ref27_hex y_) fun hex =>
 Option.bind (cat s_18 hex) fun s_19 =>
 Option.bind (cat s_19 ([10]:List UInt8)) fun s_20 =>
 some (.inl (s_20,(IntKind.i64.wrap (i+32)))))
 (Option.bind (cat s_17 ([61,32]:List UInt8)) fun s_21 =>
 Option.bind (slc x_.Data i (IntKind.i64.wrap (i+32))) fun y_1 =>
 Option.bind (ref27_hex y_1) fun hex1 =>
 Option.bind (cat s_21 hex1) fun s_22 =>
 Option.bind (cat s_22 ([10]:List UInt8)) fun s_23 =>
 some (.inl (s_23,(IntKind.i64.wrap (i+32))))))
 (some (.inr s_17))
noncomputable def ref27_Lines_l2 (x_:TApiEntry) (s_24:(List UInt8)) (i1:Int):Option (Sum ((List UInt8) × Int) (List UInt8)) :=
 lt_
 (cond (decide (i1 < (x_.Attrs.length:Int)))
 ((x_.Kind != 6))
 (false)) fun t3 =>
 cond t3
 (Option.bind (cat s_24 ([64,32]:List UInt8)) fun s_25 =>
 Option.bind (idx x_.Attrs i1) fun x_1 =>
 Option.bind (ref27_Quote x_1.Name) fun quote2 =>
 Option.bind (cat s_25 quote2) fun s_26 =>
 cond (decide ((x_1.Value.length:Int) > 0))
 (Option.bind (cat s_26 ([32]:List UInt8)) fun s_27 =>
 Option.bind (ref27_hex x_1.Value) fun hex2 =>
 Option.bind (cat s_27 hex2) fun s_28 =>
 Option.bind (cat s_28 ([10]:List UInt8)) fun s_29 =>
 some (.inl (s_29,(IntKind.i64.wrap (i1+1)))))
 (Option.bind (cat s_26 ([10]:List UInt8)) fun s_30 =>
 some (.inl (s_30,(IntKind.i64.wrap (i1+1))))))
 (some (.inr s_24))
noncomputable def ref27_Lines (x_:TApiEntry):Option (List UInt8) :=
 Option.bind (idx ([63,102,100,108,98,99,104]:List UInt8) x_.Kind) fun c =>
 Option.bind
 (cond (x_.Kind != 6)
 (Option.bind (cat [c] ([32]:List UInt8)) fun s_ =>
 Option.bind (ref27_Digits x_.Mode 8) fun digits =>
 Option.bind (cat s_ digits) fun s_1 =>
 Option.bind (cat s_1 ([32]:List UInt8)) fun s_2 =>
 Option.bind (ref27_Digits x_.Uid 10) fun digits1 =>
 Option.bind (cat s_2 digits1) fun s_3 =>
 Option.bind (cat s_3 ([32]:List UInt8)) fun s_4 =>
 Option.bind (ref27_Digits x_.Gid 10) fun digits2 =>
 Option.bind (cat s_4 digits2) fun s_5 =>
 Option.bind (cat s_5 ([32]:List UInt8)) fun s_6 =>
 Option.bind (ref27_Digits x_.Time 10) fun digits3 =>
 Option.bind (cat s_6 digits3) fun s_7 =>
 some s_7)
 (some [c])) fun s_ =>
 Option.bind
 (cond (x_.Kind == 1)
 (Option.bind (cat s_ ([32]:List UInt8)) fun s_8 =>
 Option.bind (ref27_Digits x_.Size 10) fun digits4 =>
 Option.bind (cat s_8 digits4) fun s_9 =>
 some s_9)
 (some s_)) fun s_8 =>
 lt_
 (cond (x_.Kind == 4)
 (true)
 ((x_.Kind == 5))) fun t =>
 Option.bind
 (cond t
 (Option.bind (cat s_8 ([32]:List UInt8)) fun s_10 =>
 Option.bind (ref27_Digits x_.Dev 10) fun digits5 =>
 Option.bind (cat s_10 digits5) fun s_11 =>
 some s_11)
 (some s_8)) fun s_10 =>
 Option.bind (cat s_10 ([32]:List UInt8)) fun s_12 =>
 Option.bind (ref27_Quote x_.Path) fun quote =>
 Option.bind (cat s_12 quote) fun s_13 =>
 lt_
 (cond (x_.Kind == 3)
 (true)
 ((x_.Kind == 6))) fun t1 =>
 Option.bind
 (cond t1
 (Option.bind (cat s_13 ([32]:List UInt8)) fun s_14 =>
 Option.bind (ref27_Quote x_.Target) fun quote1 =>
 Option.bind (cat s_14 quote1) fun s_15 =>
 some s_15)
 (some s_13)) fun s_14 =>
 Option.bind (cat s_14 ([10]:List UInt8)) fun s_16 =>
 Option.bind
 (loopO (fun s => ref27_Lines_l1 x_ s.1 s.2) (s_16,0)) fun s_17 =>
 Option.bind
 (loopO (fun s => ref27_Lines_l2 x_ s.1 s.2) (s_17,0)) fun s_24 =>
 some s_24
noncomputable def ref27_Print_l1 (l_:(List TApiEntry)) (i:Nat):Option (Sum Nat (Sum Unit ((List UInt8) × Int))) :=
 cond (decide ((i:Int) < (l_.length:Int)))
 (Option.bind (l_[i]?) fun x_ =>
 cond (ref27_Right x_)
 (some (.inl (i+1)))
 (some (.inr (.inr ([],1)))))
 (some (.inr (.inl ())))
noncomputable def ref27_Print_l2 (l_:(List TApiEntry)) (b:(List UInt8)) (i1:Nat):Option (Sum ((List UInt8) × Nat) (Sum (List UInt8) ((List UInt8) × Int))) :=
 cond (decide ((i1:Int) < (l_.length:Int)))
 (Option.bind (l_[i1]?) fun x_1 =>
 Option.bind (ref27_Lines x_1) fun lines =>
 Option.bind (app b lines) fun b1 =>
 cond (decide ((b1.length:Int) > 1048576))
 (some (.inr (.inr ([],2))))
 (some (.inl (b1,(i1+1)))))
 (some (.inr (.inl b)))
noncomputable def ref27_Print (l_:(List TApiEntry)):Option ((List UInt8) × Int) :=
 cond (decide ((l_.length:Int) > 16384))
 (some ([],3))
 (bnd
 (loopO (fun s => ref27_Print_l1 l_ s) 0) fun _ =>
 bnd
 (loopO (fun s => ref27_Print_l2 l_ s.1 s.2) ([],0)) fun b =>
 some (b,0))
def ref27_value (c:UInt8):Int :=
 cond (decide ((c.toNat:Int) ≥ 48))
 (cond (decide ((c.toNat:Int) ≤ 57))
 (((c.toNat:Int) - 48))
 (cond (decide ((c.toNat:Int) ≥ 97))
 (cond (decide ((c.toNat:Int) ≤ 102))
 ((((c.toNat:Int) - 97)+10))
 ((-1)))
 ((-1))))
 (cond (decide ((c.toNat:Int) ≥ 97))
 (cond (decide ((c.toNat:Int) ≤ 102))
 ((((c.toNat:Int) - 97)+10))
 ((-1)))
 ((-1)))
end Go.Proofs.YtebbaokcgnjfiaaDoor.F
