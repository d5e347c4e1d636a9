/- The law. -/
import Derived.Test.YtkleajhiihbefaaGreatDoorBK12
import Derived.Test.YtkleajhiihbefaaGreatDoorRows
import Derived.SevenTiedAt
import Derived.Test.YtkleajhiihbefaaGreatDoorCards
import Derived.Test.YtkleajhiihbefaaGreatDoorTie
set_option linter.unusedVariables false
namespace Go.Proofs.YtkleajhiihbefaaGreatDoor
open Go Go.RowKit Go.ChangeShapes Go.WideShapes Go.ChangeAt
theorem diffBack_card : Rows.DiffBackCardSaid :=
 Claim7.holds_tied_plain_at .later [] [.data, .pinned] true (true, "0fcb9a384771b3b5b3c992d37684b57df0057b2baaf8cca700c93b1ddd3c779a") true
  diffBack_holds (fun _ h => by cases h) (by as_aux_lemma => kernel_rfl) (fun _ h => by cases h) diffBack_row_tie rfl ⟨rfl, rfl⟩ (by as_aux_lemma => kernel_rfl) rfl
  (fun f fn hf hfn => by
   obtain rfl : f = 8 := Option.some.inj ((show Tryz.prog.funcNamed "portmanteau/portmanteaulaw29.DiffBack" = some 8 by as_aux_lemma => kernel_rfl).symm.trans hf) |>.symm
   obtain rfl : fn = Tryz.f8 := (Option.some.inj (Tryz.func8.symm.trans hfn)).symm
   exact ⟨by as_aux_lemma => kernel_rfl, fun j t ht => by
    rw [Tryz.params8] at ht
    have hm : t ∈ [22, 22] := by simpa using Array.mem_of_getElem? ht
    have hall : ([22, 22].all fun u => !Tryz.prog.wantsStandIn u) = true := by as_aux_lemma => kernel_rfl
    exact (show Tryz.prog.wantsStandIn t = false by simpa using List.all_eq_true.1 hall t hm)⟩)
  (by as_aux_lemma => kernel_rfl)
#print axioms diffBack_card
end Go.Proofs.YtkleajhiihbefaaGreatDoor
