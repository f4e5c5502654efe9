/- Contracts of slices.Clone, as a row that may be written. -/
import Derived.Test.YtijgdpmadidpaaaGreatDoorAbAd
import Derived.Test.YtijgdpmadidpaaaGreatDoorDat06
import Derived.Test.YtijgdpmadidpaaaGreatDoorTy
set_option linter.unusedSimpArgs false
set_option linter.unnecessarySimpa false
set_option linter.unusedVariables false
namespace Go.Ab
open Go.Proofs Go.Ab
attribute [local irreducible] awp rwpL OpOk PCalls OCalls QCalls AV.sub

set_option maxHeartbeats 4000000 in
theorem slices_Clone_api_ModuleStep_api_ModuleStep_nil (l : List TModuleStep) (h : l.isEmpty = true) : PCalls Tryz.prog 79 [eL eTModuleStep l] (· = .p (eL eTModuleStep [])) := by
  obtain rfl : l = [] := by simpa using h
  refine pbodyA good Tryz.func79 rfl rfl rfl fun w0 => ?_
  refine awp_seq ?_
  refine awp_reg ?_
  refine rwpL_op rfl ?_
  refine ok_assign rfl rfl rfl rfl ?_
  refine rwpL_nil ?_
  (repeat (first | refine thenQ_exit ?_ | refine thenQ_ret ?_ | refine exQ_hit ?_ | refine exQ_other rfl ?_ | refine exQ_ret ?_ | refine exQ_normal ?_ | refine blockQ_ret ?_ | refine blockQ_normal ?_ | refine blockQ_exit ?_ | refine blockQ_other rfl ?_ | refine noGoto_ret ?_ | refine noGoto_exit ?_ | refine noGoto_normal ?_))
  refine awp_seq ?_
  refine awp_seq ?_
  refine awp_reg ?_
  refine rwpL_op rfl ?_
  refine ok_move rfl rfl rfl rfl ?_
  refine rwpL_op rfl ?_
  refine op_isNil rfl rfl rfl rfl rfl rfl rfl rfl (fun b hb => ?_)
  refine rwpL_nil ?_
  (repeat (first | refine thenQ_exit ?_ | refine thenQ_ret ?_ | refine exQ_hit ?_ | refine exQ_other rfl ?_ | refine exQ_ret ?_ | refine exQ_normal ?_ | refine blockQ_ret ?_ | refine blockQ_normal ?_ | refine blockQ_exit ?_ | refine blockQ_other rfl ?_ | refine noGoto_ret ?_ | refine noGoto_exit ?_ | refine noGoto_normal ?_))
  refine wp_if rfl (fun hc => ?_) (fun hc => ?_)
  · skip
    refine awp_seq ?_
    refine awp_reg ?_
    refine rwpL_op rfl ?_
    refine ok_assign rfl rfl rfl rfl ?_
    refine rwpL_nil ?_
    (repeat (first | refine thenQ_exit ?_ | refine thenQ_ret ?_ | refine exQ_hit ?_ | refine exQ_other rfl ?_ | refine exQ_ret ?_ | refine exQ_normal ?_ | refine blockQ_ret ?_ | refine blockQ_normal ?_ | refine blockQ_exit ?_ | refine blockQ_other rfl ?_ | refine noGoto_ret ?_ | refine noGoto_exit ?_ | refine noGoto_normal ?_))
    refine awp_ret ?_
    (repeat (first | refine thenQ_exit ?_ | refine thenQ_ret ?_ | refine exQ_hit ?_ | refine exQ_other rfl ?_ | refine exQ_ret ?_ | refine exQ_normal ?_ | refine blockQ_ret ?_ | refine blockQ_normal ?_ | refine blockQ_exit ?_ | refine blockQ_other rfl ?_ | refine noGoto_ret ?_ | refine noGoto_exit ?_ | refine noGoto_normal ?_))
    refine reta_mk rfl ?_
    exact sub_nilL _
  · skip
    refine awp_skip ?_
    (repeat (first | refine thenQ_exit ?_ | refine thenQ_ret ?_ | refine exQ_hit ?_ | refine exQ_other rfl ?_ | refine exQ_ret ?_ | refine exQ_normal ?_ | refine blockQ_ret ?_ | refine blockQ_normal ?_ | refine blockQ_exit ?_ | refine blockQ_other rfl ?_ | refine noGoto_ret ?_ | refine noGoto_exit ?_ | refine noGoto_normal ?_))
    refine awp_seq ?_
    refine awp_reg ?_
    refine rwpL_op rfl ?_
    refine op_empty rfl rfl rfl rfl rfl rfl rfl 5 4 ?_
    refine rwpL_op rfl ?_
    refine ok_move rfl rfl rfl rfl ?_
    refine rwpL_op rfl ?_
    refine op_appV eTModuleStep [] [] rfl rfl rfl rfl rfl rfl rfl rfl rfl rfl rfl rfl rfl (fun x => congrArg List.length (TModuleStep.cells_eq x)) rfl rfl rfl rfl (by decide) ?_
    refine rwpL_op rfl ?_
    refine ok_assign rfl rfl rfl rfl ?_
    refine rwpL_nil ?_
    (repeat (first | refine thenQ_exit ?_ | refine thenQ_ret ?_ | refine exQ_hit ?_ | refine exQ_other rfl ?_ | refine exQ_ret ?_ | refine exQ_normal ?_ | refine blockQ_ret ?_ | refine blockQ_normal ?_ | refine blockQ_exit ?_ | refine blockQ_other rfl ?_ | refine noGoto_ret ?_ | refine noGoto_exit ?_ | refine noGoto_normal ?_))
    refine awp_ret ?_
    (repeat (first | refine thenQ_exit ?_ | refine thenQ_ret ?_ | refine exQ_hit ?_ | refine exQ_other rfl ?_ | refine exQ_ret ?_ | refine exQ_normal ?_ | refine blockQ_ret ?_ | refine blockQ_normal ?_ | refine blockQ_exit ?_ | refine blockQ_other rfl ?_ | refine noGoto_ret ?_ | refine noGoto_exit ?_ | refine noGoto_normal ?_))
    refine reta_mk rfl ?_
    exact AV.sub_vec _ _ _ _

set_option maxHeartbeats 4000000 in
theorem slices_Clone_api_ModuleStep_api_ModuleStep_row (l : List TModuleStep) (h : l.isEmpty = false) (hlen : l.length * 48 ≤ 140737488355328) : OCalls Tryz.prog 79 [.p (eL eTModuleStep l)] [] (fun x y => x = .arr 2000000 4 0 l.length ∧ y = [(2000000, rowC eTModuleStep l)]) := by
  refine obodyG good [800000] [800000] Tryz.func79 rfl rfl rfl rfl rfl fun w0 F => ?_
  refine awp_seq ?_
  refine awp_reg ?_
  refine rwpL_op rfl ?_
  refine ok_assign rfl rfl rfl rfl ?_
  refine rwpL_nil ?_
  (repeat (first | refine thenQ_exit ?_ | refine thenQ_ret ?_ | refine exQ_hit ?_ | refine exQ_other rfl ?_ | refine exQ_ret ?_ | refine exQ_normal ?_ | refine blockQ_ret ?_ | refine blockQ_normal ?_ | refine blockQ_exit ?_ | refine blockQ_other rfl ?_ | refine noGoto_ret ?_ | refine noGoto_exit ?_ | refine noGoto_normal ?_))
  refine awp_seq ?_
  refine awp_seq ?_
  refine awp_reg ?_
  refine rwpL_op rfl ?_
  refine ok_move rfl rfl rfl rfl ?_
  refine rwpL_op rfl ?_
  refine op_isNil rfl rfl rfl rfl rfl rfl rfl rfl (fun b hb => ?_)
  refine rwpL_nil ?_
  (repeat (first | refine thenQ_exit ?_ | refine thenQ_ret ?_ | refine exQ_hit ?_ | refine exQ_other rfl ?_ | refine exQ_ret ?_ | refine exQ_normal ?_ | refine blockQ_ret ?_ | refine blockQ_normal ?_ | refine blockQ_exit ?_ | refine blockQ_other rfl ?_ | refine noGoto_ret ?_ | refine noGoto_exit ?_ | refine noGoto_normal ?_))
  refine wp_if rfl (fun hc => ?_) (fun hc => ?_)
  · have he : l = [] := by simpa using hb hc
    subst he
    cases h
  · skip
    refine awp_skip ?_
    (repeat (first | refine thenQ_exit ?_ | refine thenQ_ret ?_ | refine exQ_hit ?_ | refine exQ_other rfl ?_ | refine exQ_ret ?_ | refine exQ_normal ?_ | refine blockQ_ret ?_ | refine blockQ_normal ?_ | refine blockQ_exit ?_ | refine blockQ_other rfl ?_ | refine noGoto_ret ?_ | refine noGoto_exit ?_ | refine noGoto_normal ?_))
    refine awp_seq ?_
    refine awp_reg ?_
    refine rwpL_op rfl ?_
    refine op_emptyA rfl rfl rfl rfl rfl rfl 4 ?_
    refine rwpL_op rfl ?_
    refine ok_move rfl rfl rfl rfl ?_
    refine rwpL_op rfl ?_
    refine op_rowA eTModuleStep [] l rfl rfl rfl rfl rfl rfl rfl rfl rfl rfl rfl rfl rfl rfl rfl (fun x => congrArg List.length (TModuleStep.cells_eq x)) rfl rfl rfl (by simpa using hlen) ?_
    refine rwpL_op rfl ?_
    refine ok_assign rfl rfl rfl rfl ?_
    refine rwpL_nil ?_
    (repeat (first | refine thenQ_exit ?_ | refine thenQ_ret ?_ | refine exQ_hit ?_ | refine exQ_other rfl ?_ | refine exQ_ret ?_ | refine exQ_normal ?_ | refine blockQ_ret ?_ | refine blockQ_normal ?_ | refine blockQ_exit ?_ | refine blockQ_other rfl ?_ | refine noGoto_ret ?_ | refine noGoto_exit ?_ | refine noGoto_normal ?_))
    refine awp_ret ?_
    (repeat (first | refine thenQ_exit ?_ | refine thenQ_ret ?_ | refine exQ_hit ?_ | refine exQ_other rfl ?_ | refine exQ_ret ?_ | refine exQ_normal ?_ | refine blockQ_ret ?_ | refine blockQ_normal ?_ | refine blockQ_exit ?_ | refine blockQ_other rfl ?_ | refine noGoto_ret ?_ | refine noGoto_exit ?_ | refine noGoto_normal ?_))
    exact retg_mk (ghost_ren 7 800000 rfl rfl rfl rfl (mapO_cons rfl (mapA_go_p _) rfl)) rfl rfl rfl (mapO_cons rfl (mapA_go_p _) rfl) (AV.sub_of_eq (congrArg (AV.arr 2000000 4 0) (by simp))) ⟨⟨_, rfl, subL_refl _⟩, trivial⟩

end Go.Ab
