/- Contracts of slices.Clone, as a row that may be written. -/
import Derived.Test.YtapfhipodpbflaaGreatDoorAbAd
import Derived.Test.YtapfhipodpbflaaGreatDoorDat46
import Derived.Test.YtapfhipodpbflaaGreatDoorTy
import Derived.Test.YtapfhipodpbflaaGreatDoorAbGw
set_option linter.unusedSimpArgs false
set_option linter.unnecessarySimpa false
set_option linter.unusedVariables false
namespace Go.Ab
open Go.Proofs Go.Ab
attribute [local irreducible] awp rwpL OpOk PCalls OCalls QCalls AV.sub

set_option maxHeartbeats 4000000 in
theorem slices_Clone_string_string_ok (l : List Bytes) (hlen : l.length * 16 ≤ 140737488355328) : PCalls Tryz.prog 116 [eL eS l] (· = .p (eL eS l)) := by
  refine pbodyA good Tryz.func116 rfl rfl rfl fun w0 => ?_
  refine awp_seq ?_
  refine awp_reg ?_
  refine rwpL_op rfl ?_
  refine ok_assign rfl rfl rfl rfl ?_
  refine rwpL_nil ?_
  (repeat (first | refine thenQ_exit ?_ | refine thenQ_ret ?_ | refine exQ_hit ?_ | refine exQ_other rfl ?_ | refine exQ_ret ?_ | refine exQ_normal ?_ | refine blockQ_ret ?_ | refine blockQ_normal ?_ | refine blockQ_exit ?_ | refine blockQ_other rfl ?_ | refine noGoto_ret ?_ | refine noGoto_exit ?_ | refine noGoto_normal ?_))
  refine awp_seq ?_
  refine awp_seq ?_
  refine awp_reg ?_
  refine rwpL_op rfl ?_
  refine ok_move rfl rfl rfl rfl ?_
  refine rwpL_op rfl ?_
  refine op_isNil rfl rfl rfl rfl rfl rfl rfl rfl (fun b hb => ?_)
  refine rwpL_nil ?_
  (repeat (first | refine thenQ_exit ?_ | refine thenQ_ret ?_ | refine exQ_hit ?_ | refine exQ_other rfl ?_ | refine exQ_ret ?_ | refine exQ_normal ?_ | refine blockQ_ret ?_ | refine blockQ_normal ?_ | refine blockQ_exit ?_ | refine blockQ_other rfl ?_ | refine noGoto_ret ?_ | refine noGoto_exit ?_ | refine noGoto_normal ?_))
  refine wp_if rfl (fun hc => ?_) (fun hc => ?_)
  · have he : l = [] := by simpa using hb hc
    subst he
    refine awp_seq ?_
    refine awp_reg ?_
    refine rwpL_op rfl ?_
    refine ok_assign rfl rfl rfl rfl ?_
    refine rwpL_nil ?_
    (repeat (first | refine thenQ_exit ?_ | refine thenQ_ret ?_ | refine exQ_hit ?_ | refine exQ_other rfl ?_ | refine exQ_ret ?_ | refine exQ_normal ?_ | refine blockQ_ret ?_ | refine blockQ_normal ?_ | refine blockQ_exit ?_ | refine blockQ_other rfl ?_ | refine noGoto_ret ?_ | refine noGoto_exit ?_ | refine noGoto_normal ?_))
    refine awp_ret ?_
    (repeat (first | refine thenQ_exit ?_ | refine thenQ_ret ?_ | refine exQ_hit ?_ | refine exQ_other rfl ?_ | refine exQ_ret ?_ | refine exQ_normal ?_ | refine blockQ_ret ?_ | refine blockQ_normal ?_ | refine blockQ_exit ?_ | refine blockQ_other rfl ?_ | refine noGoto_ret ?_ | refine noGoto_exit ?_ | refine noGoto_normal ?_))
    refine reta_mk rfl ?_
    exact sub_nilL _
  · skip
    refine awp_skip ?_
    (repeat (first | refine thenQ_exit ?_ | refine thenQ_ret ?_ | refine exQ_hit ?_ | refine exQ_other rfl ?_ | refine exQ_ret ?_ | refine exQ_normal ?_ | refine blockQ_ret ?_ | refine blockQ_normal ?_ | refine blockQ_exit ?_ | refine blockQ_other rfl ?_ | refine noGoto_ret ?_ | refine noGoto_exit ?_ | refine noGoto_normal ?_))
    refine awp_seq ?_
    refine awp_reg ?_
    refine rwpL_op rfl ?_
    refine op_empty rfl rfl rfl rfl rfl rfl rfl 5 1 ?_
    refine rwpL_op rfl ?_
    refine ok_move rfl rfl rfl rfl ?_
    refine rwpL_op rfl ?_
    refine op_appV eS [] l rfl rfl rfl rfl rfl rfl rfl rfl rfl rfl rfl rfl rfl (fun _ => rfl) rfl rfl rfl rfl (by simpa using hlen) ?_
    refine rwpL_op rfl ?_
    refine ok_assign rfl rfl rfl rfl ?_
    refine rwpL_nil ?_
    (repeat (first | refine thenQ_exit ?_ | refine thenQ_ret ?_ | refine exQ_hit ?_ | refine exQ_other rfl ?_ | refine exQ_ret ?_ | refine exQ_normal ?_ | refine blockQ_ret ?_ | refine blockQ_normal ?_ | refine blockQ_exit ?_ | refine blockQ_other rfl ?_ | refine noGoto_ret ?_ | refine noGoto_exit ?_ | refine noGoto_normal ?_))
    refine awp_ret ?_
    (repeat (first | refine thenQ_exit ?_ | refine thenQ_ret ?_ | refine exQ_hit ?_ | refine exQ_other rfl ?_ | refine exQ_ret ?_ | refine exQ_normal ?_ | refine blockQ_ret ?_ | refine blockQ_normal ?_ | refine blockQ_exit ?_ | refine blockQ_other rfl ?_ | refine noGoto_ret ?_ | refine noGoto_exit ?_ | refine noGoto_normal ?_))
    refine reta_mk rfl ?_
    exact AV.sub_vec _ _ _ _

set_option maxHeartbeats 4000000 in
theorem slices_Clone_string_string_vec (l : List Bytes) (hlen : l.length * 16 ≤ 140737488355328) : OCalls Tryz.prog 116 [.p (eL eS l)] [] (fun x y => x = .vec 2000000 1 0 (l.map eS) ∧ y = []) := by
  refine obodyG good [800000] [] Tryz.func116 rfl rfl rfl rfl rfl fun w0 F => ?_
  refine awp_seq ?_
  refine awp_reg ?_
  refine rwpL_op rfl ?_
  refine ok_assign rfl rfl rfl rfl ?_
  refine rwpL_nil ?_
  (repeat (first | refine thenQ_exit ?_ | refine thenQ_ret ?_ | refine exQ_hit ?_ | refine exQ_other rfl ?_ | refine exQ_ret ?_ | refine exQ_normal ?_ | refine blockQ_ret ?_ | refine blockQ_normal ?_ | refine blockQ_exit ?_ | refine blockQ_other rfl ?_ | refine noGoto_ret ?_ | refine noGoto_exit ?_ | refine noGoto_normal ?_))
  refine awp_seq ?_
  refine awp_seq ?_
  refine awp_reg ?_
  refine rwpL_op rfl ?_
  refine ok_move rfl rfl rfl rfl ?_
  refine rwpL_op rfl ?_
  refine op_isNil rfl rfl rfl rfl rfl rfl rfl rfl (fun b hb => ?_)
  refine rwpL_nil ?_
  (repeat (first | refine thenQ_exit ?_ | refine thenQ_ret ?_ | refine exQ_hit ?_ | refine exQ_other rfl ?_ | refine exQ_ret ?_ | refine exQ_normal ?_ | refine blockQ_ret ?_ | refine blockQ_normal ?_ | refine blockQ_exit ?_ | refine blockQ_other rfl ?_ | refine noGoto_ret ?_ | refine noGoto_exit ?_ | refine noGoto_normal ?_))
  refine wp_if rfl (fun hc => ?_) (fun hc => ?_)
  · have he : l = [] := by simpa using hb hc
    subst he
    refine awp_seq ?_
    refine awp_reg ?_
    refine rwpL_op rfl ?_
    refine ok_assign rfl rfl rfl rfl ?_
    refine rwpL_nil ?_
    (repeat (first | refine thenQ_exit ?_ | refine thenQ_ret ?_ | refine exQ_hit ?_ | refine exQ_other rfl ?_ | refine exQ_ret ?_ | refine exQ_normal ?_ | refine blockQ_ret ?_ | refine blockQ_normal ?_ | refine blockQ_exit ?_ | refine blockQ_other rfl ?_ | refine noGoto_ret ?_ | refine noGoto_exit ?_ | refine noGoto_normal ?_))
    refine awp_ret ?_
    (repeat (first | refine thenQ_exit ?_ | refine thenQ_ret ?_ | refine exQ_hit ?_ | refine exQ_other rfl ?_ | refine exQ_ret ?_ | refine exQ_normal ?_ | refine blockQ_ret ?_ | refine blockQ_normal ?_ | refine blockQ_exit ?_ | refine blockQ_other rfl ?_ | refine noGoto_ret ?_ | refine noGoto_exit ?_ | refine noGoto_normal ?_))
    exact retg_mk (ghost_refl _) rfl rfl rfl rfl (AV.sub_nilvec _ _ _) trivial
  · skip
    refine awp_skip ?_
    (repeat (first | refine thenQ_exit ?_ | refine thenQ_ret ?_ | refine exQ_hit ?_ | refine exQ_other rfl ?_ | refine exQ_ret ?_ | refine exQ_normal ?_ | refine blockQ_ret ?_ | refine blockQ_normal ?_ | refine blockQ_exit ?_ | refine blockQ_other rfl ?_ | refine noGoto_ret ?_ | refine noGoto_exit ?_ | refine noGoto_normal ?_))
    refine awp_seq ?_
    refine awp_reg ?_
    refine rwpL_op rfl ?_
    refine op_empty rfl rfl rfl rfl rfl rfl rfl 5 1 ?_
    refine rwpL_op rfl ?_
    refine ok_move rfl rfl rfl rfl ?_
    refine rwpL_op rfl ?_
    refine op_appV eS [] l rfl rfl rfl rfl rfl rfl rfl rfl rfl rfl rfl rfl rfl (fun _ => rfl) rfl rfl rfl rfl (by simpa using hlen) ?_
    refine rwpL_op rfl ?_
    refine ok_assign rfl rfl rfl rfl ?_
    refine rwpL_nil ?_
    (repeat (first | refine thenQ_exit ?_ | refine thenQ_ret ?_ | refine exQ_hit ?_ | refine exQ_other rfl ?_ | refine exQ_ret ?_ | refine exQ_normal ?_ | refine blockQ_ret ?_ | refine blockQ_normal ?_ | refine blockQ_exit ?_ | refine blockQ_other rfl ?_ | refine noGoto_ret ?_ | refine noGoto_exit ?_ | refine noGoto_normal ?_))
    refine awp_ret ?_
    (repeat (first | refine thenQ_exit ?_ | refine thenQ_ret ?_ | refine exQ_hit ?_ | refine exQ_other rfl ?_ | refine exQ_ret ?_ | refine exQ_normal ?_ | refine blockQ_ret ?_ | refine blockQ_normal ?_ | refine blockQ_exit ?_ | refine blockQ_other rfl ?_ | refine noGoto_ret ?_ | refine noGoto_exit ?_ | refine noGoto_normal ?_))
    exact retg_mk (ghost_ren 7 800000 rfl rfl rfl rfl rfl) rfl rfl rfl rfl (AV.sub_refl _) trivial

set_option maxHeartbeats 4000000 in
theorem slices_Clone_api_Value_api_Value_nil (l : List TValue) (h : l.isEmpty = true) : PCalls Tryz.prog 117 [eL eTValue l] (· = .p (eL eTValue [])) := by
  obtain rfl : l = [] := by simpa using h
  refine pbodyA good Tryz.func117 rfl rfl rfl fun w0 => ?_
  refine awp_seq ?_
  refine awp_reg ?_
  refine rwpL_op rfl ?_
  refine ok_assign rfl rfl rfl rfl ?_
  refine rwpL_nil ?_
  (repeat (first | refine thenQ_exit ?_ | refine thenQ_ret ?_ | refine exQ_hit ?_ | refine exQ_other rfl ?_ | refine exQ_ret ?_ | refine exQ_normal ?_ | refine blockQ_ret ?_ | refine blockQ_normal ?_ | refine blockQ_exit ?_ | refine blockQ_other rfl ?_ | refine noGoto_ret ?_ | refine noGoto_exit ?_ | refine noGoto_normal ?_))
  refine awp_seq ?_
  refine awp_seq ?_
  refine awp_reg ?_
  refine rwpL_op rfl ?_
  refine ok_move rfl rfl rfl rfl ?_
  refine rwpL_op rfl ?_
  refine op_isNil rfl rfl rfl rfl rfl rfl rfl rfl (fun b hb => ?_)
  refine rwpL_nil ?_
  (repeat (first | refine thenQ_exit ?_ | refine thenQ_ret ?_ | refine exQ_hit ?_ | refine exQ_other rfl ?_ | refine exQ_ret ?_ | refine exQ_normal ?_ | refine blockQ_ret ?_ | refine blockQ_normal ?_ | refine blockQ_exit ?_ | refine blockQ_other rfl ?_ | refine noGoto_ret ?_ | refine noGoto_exit ?_ | refine noGoto_normal ?_))
  refine wp_if rfl (fun hc => ?_) (fun hc => ?_)
  · skip
    refine awp_seq ?_
    refine awp_reg ?_
    refine rwpL_op rfl ?_
    refine ok_assign rfl rfl rfl rfl ?_
    refine rwpL_nil ?_
    (repeat (first | refine thenQ_exit ?_ | refine thenQ_ret ?_ | refine exQ_hit ?_ | refine exQ_other rfl ?_ | refine exQ_ret ?_ | refine exQ_normal ?_ | refine blockQ_ret ?_ | refine blockQ_normal ?_ | refine blockQ_exit ?_ | refine blockQ_other rfl ?_ | refine noGoto_ret ?_ | refine noGoto_exit ?_ | refine noGoto_normal ?_))
    refine awp_ret ?_
    (repeat (first | refine thenQ_exit ?_ | refine thenQ_ret ?_ | refine exQ_hit ?_ | refine exQ_other rfl ?_ | refine exQ_ret ?_ | refine exQ_normal ?_ | refine blockQ_ret ?_ | refine blockQ_normal ?_ | refine blockQ_exit ?_ | refine blockQ_other rfl ?_ | refine noGoto_ret ?_ | refine noGoto_exit ?_ | refine noGoto_normal ?_))
    refine reta_mk rfl ?_
    exact sub_nilL _
  · skip
    refine awp_skip ?_
    (repeat (first | refine thenQ_exit ?_ | refine thenQ_ret ?_ | refine exQ_hit ?_ | refine exQ_other rfl ?_ | refine exQ_ret ?_ | refine exQ_normal ?_ | refine blockQ_ret ?_ | refine blockQ_normal ?_ | refine blockQ_exit ?_ | refine blockQ_other rfl ?_ | refine noGoto_ret ?_ | refine noGoto_exit ?_ | refine noGoto_normal ?_))
    refine awp_seq ?_
    refine awp_reg ?_
    refine rwpL_op rfl ?_
    refine op_empty rfl rfl rfl rfl rfl rfl rfl 5 5 ?_
    refine rwpL_op rfl ?_
    refine ok_move rfl rfl rfl rfl ?_
    refine rwpL_op rfl ?_
    refine op_appV eTValue [] [] rfl rfl rfl rfl rfl rfl rfl rfl rfl rfl rfl rfl rfl (fun x => congrArg List.length (TValue.cells_eq x)) rfl rfl rfl rfl (by decide) ?_
    refine rwpL_op rfl ?_
    refine ok_assign rfl rfl rfl rfl ?_
    refine rwpL_nil ?_
    (repeat (first | refine thenQ_exit ?_ | refine thenQ_ret ?_ | refine exQ_hit ?_ | refine exQ_other rfl ?_ | refine exQ_ret ?_ | refine exQ_normal ?_ | refine blockQ_ret ?_ | refine blockQ_normal ?_ | refine blockQ_exit ?_ | refine blockQ_other rfl ?_ | refine noGoto_ret ?_ | refine noGoto_exit ?_ | refine noGoto_normal ?_))
    refine awp_ret ?_
    (repeat (first | refine thenQ_exit ?_ | refine thenQ_ret ?_ | refine exQ_hit ?_ | refine exQ_other rfl ?_ | refine exQ_ret ?_ | refine exQ_normal ?_ | refine blockQ_ret ?_ | refine blockQ_normal ?_ | refine blockQ_exit ?_ | refine blockQ_other rfl ?_ | refine noGoto_ret ?_ | refine noGoto_exit ?_ | refine noGoto_normal ?_))
    refine reta_mk rfl ?_
    exact AV.sub_vec _ _ _ _

set_option maxHeartbeats 4000000 in
theorem slices_Clone_api_Value_api_Value_row (l : List TValue) (h : l.isEmpty = false) (hlen : l.length * 80 ≤ 140737488355328) : OCalls Tryz.prog 117 [.p (eL eTValue l)] [] (fun x y => x = .arr 2000000 5 0 l.length ∧ y = [(2000000, rowC eTValue l)]) := by
  refine obodyG good [800000] [800000] Tryz.func117 rfl rfl rfl rfl rfl fun w0 F => ?_
  refine awp_seq ?_
  refine awp_reg ?_
  refine rwpL_op rfl ?_
  refine ok_assign rfl rfl rfl rfl ?_
  refine rwpL_nil ?_
  (repeat (first | refine thenQ_exit ?_ | refine thenQ_ret ?_ | refine exQ_hit ?_ | refine exQ_other rfl ?_ | refine exQ_ret ?_ | refine exQ_normal ?_ | refine blockQ_ret ?_ | refine blockQ_normal ?_ | refine blockQ_exit ?_ | refine blockQ_other rfl ?_ | refine noGoto_ret ?_ | refine noGoto_exit ?_ | refine noGoto_normal ?_))
  refine awp_seq ?_
  refine awp_seq ?_
  refine awp_reg ?_
  refine rwpL_op rfl ?_
  refine ok_move rfl rfl rfl rfl ?_
  refine rwpL_op rfl ?_
  refine op_isNil rfl rfl rfl rfl rfl rfl rfl rfl (fun b hb => ?_)
  refine rwpL_nil ?_
  (repeat (first | refine thenQ_exit ?_ | refine thenQ_ret ?_ | refine exQ_hit ?_ | refine exQ_other rfl ?_ | refine exQ_ret ?_ | refine exQ_normal ?_ | refine blockQ_ret ?_ | refine blockQ_normal ?_ | refine blockQ_exit ?_ | refine blockQ_other rfl ?_ | refine noGoto_ret ?_ | refine noGoto_exit ?_ | refine noGoto_normal ?_))
  refine wp_if rfl (fun hc => ?_) (fun hc => ?_)
  · have he : l = [] := by simpa using hb hc
    subst he
    cases h
  · skip
    refine awp_skip ?_
    (repeat (first | refine thenQ_exit ?_ | refine thenQ_ret ?_ | refine exQ_hit ?_ | refine exQ_other rfl ?_ | refine exQ_ret ?_ | refine exQ_normal ?_ | refine blockQ_ret ?_ | refine blockQ_normal ?_ | refine blockQ_exit ?_ | refine blockQ_other rfl ?_ | refine noGoto_ret ?_ | refine noGoto_exit ?_ | refine noGoto_normal ?_))
    refine awp_seq ?_
    refine awp_reg ?_
    refine rwpL_op rfl ?_
    refine op_emptyA rfl rfl rfl rfl rfl rfl 5 ?_
    refine rwpL_op rfl ?_
    refine ok_move rfl rfl rfl rfl ?_
    refine rwpL_op rfl ?_
    refine op_rowA eTValue [] l rfl rfl rfl rfl rfl rfl rfl rfl rfl rfl rfl rfl rfl rfl rfl (fun x => congrArg List.length (TValue.cells_eq x)) rfl rfl rfl (by simpa using hlen) ?_
    refine rwpL_op rfl ?_
    refine ok_assign rfl rfl rfl rfl ?_
    refine rwpL_nil ?_
    (repeat (first | refine thenQ_exit ?_ | refine thenQ_ret ?_ | refine exQ_hit ?_ | refine exQ_other rfl ?_ | refine exQ_ret ?_ | refine exQ_normal ?_ | refine blockQ_ret ?_ | refine blockQ_normal ?_ | refine blockQ_exit ?_ | refine blockQ_other rfl ?_ | refine noGoto_ret ?_ | refine noGoto_exit ?_ | refine noGoto_normal ?_))
    refine awp_ret ?_
    (repeat (first | refine thenQ_exit ?_ | refine thenQ_ret ?_ | refine exQ_hit ?_ | refine exQ_other rfl ?_ | refine exQ_ret ?_ | refine exQ_normal ?_ | refine blockQ_ret ?_ | refine blockQ_normal ?_ | refine blockQ_exit ?_ | refine blockQ_other rfl ?_ | refine noGoto_ret ?_ | refine noGoto_exit ?_ | refine noGoto_normal ?_))
    exact retg_mk (ghost_ren 7 800000 rfl rfl rfl rfl (mapO_cons rfl (mapA_go_p _) rfl)) rfl rfl rfl (mapO_cons rfl (mapA_go_p _) rfl) (AV.sub_of_eq (congrArg (AV.arr 2000000 5 0) (by simp))) ⟨⟨_, rfl, subL_refl _⟩, trivial⟩

set_option maxHeartbeats 4000000 in
theorem slices_Clone_api_Type_api_Type_nil (l : List TType) (h : l.isEmpty = true) : PCalls Tryz.prog 151 [eL eTType l] (· = .p (eL eTType [])) := by
  obtain rfl : l = [] := by simpa using h
  refine pbodyA good Tryz.func151 rfl rfl rfl fun w0 => ?_
  refine awp_seq ?_
  refine awp_reg ?_
  refine rwpL_op rfl ?_
  refine ok_assign rfl rfl rfl rfl ?_
  refine rwpL_nil ?_
  (repeat (first | refine thenQ_exit ?_ | refine thenQ_ret ?_ | refine exQ_hit ?_ | refine exQ_other rfl ?_ | refine exQ_ret ?_ | refine exQ_normal ?_ | refine blockQ_ret ?_ | refine blockQ_normal ?_ | refine blockQ_exit ?_ | refine blockQ_other rfl ?_ | refine noGoto_ret ?_ | refine noGoto_exit ?_ | refine noGoto_normal ?_))
  refine awp_seq ?_
  refine awp_seq ?_
  refine awp_reg ?_
  refine rwpL_op rfl ?_
  refine ok_move rfl rfl rfl rfl ?_
  refine rwpL_op rfl ?_
  refine op_isNil rfl rfl rfl rfl rfl rfl rfl rfl (fun b hb => ?_)
  refine rwpL_nil ?_
  (repeat (first | refine thenQ_exit ?_ | refine thenQ_ret ?_ | refine exQ_hit ?_ | refine exQ_other rfl ?_ | refine exQ_ret ?_ | refine exQ_normal ?_ | refine blockQ_ret ?_ | refine blockQ_normal ?_ | refine blockQ_exit ?_ | refine blockQ_other rfl ?_ | refine noGoto_ret ?_ | refine noGoto_exit ?_ | refine noGoto_normal ?_))
  refine wp_if rfl (fun hc => ?_) (fun hc => ?_)
  · skip
    refine awp_seq ?_
    refine awp_reg ?_
    refine rwpL_op rfl ?_
    refine ok_assign rfl rfl rfl rfl ?_
    refine rwpL_nil ?_
    (repeat (first | refine thenQ_exit ?_ | refine thenQ_ret ?_ | refine exQ_hit ?_ | refine exQ_other rfl ?_ | refine exQ_ret ?_ | refine exQ_normal ?_ | refine blockQ_ret ?_ | refine blockQ_normal ?_ | refine blockQ_exit ?_ | refine blockQ_other rfl ?_ | refine noGoto_ret ?_ | refine noGoto_exit ?_ | refine noGoto_normal ?_))
    refine awp_ret ?_
    (repeat (first | refine thenQ_exit ?_ | refine thenQ_ret ?_ | refine exQ_hit ?_ | refine exQ_other rfl ?_ | refine exQ_ret ?_ | refine exQ_normal ?_ | refine blockQ_ret ?_ | refine blockQ_normal ?_ | refine blockQ_exit ?_ | refine blockQ_other rfl ?_ | refine noGoto_ret ?_ | refine noGoto_exit ?_ | refine noGoto_normal ?_))
    refine reta_mk rfl ?_
    exact sub_nilL _
  · skip
    refine awp_skip ?_
    (repeat (first | refine thenQ_exit ?_ | refine thenQ_ret ?_ | refine exQ_hit ?_ | refine exQ_other rfl ?_ | refine exQ_ret ?_ | refine exQ_normal ?_ | refine blockQ_ret ?_ | refine blockQ_normal ?_ | refine blockQ_exit ?_ | refine blockQ_other rfl ?_ | refine noGoto_ret ?_ | refine noGoto_exit ?_ | refine noGoto_normal ?_))
    refine awp_seq ?_
    refine awp_reg ?_
    refine rwpL_op rfl ?_
    refine op_empty rfl rfl rfl rfl rfl rfl rfl 5 3 ?_
    refine rwpL_op rfl ?_
    refine ok_move rfl rfl rfl rfl ?_
    refine rwpL_op rfl ?_
    refine op_appV eTType [] [] rfl rfl rfl rfl rfl rfl rfl rfl rfl rfl rfl rfl rfl (fun x => congrArg List.length (TType.cells_eq x)) rfl rfl rfl rfl (by decide) ?_
    refine rwpL_op rfl ?_
    refine ok_assign rfl rfl rfl rfl ?_
    refine rwpL_nil ?_
    (repeat (first | refine thenQ_exit ?_ | refine thenQ_ret ?_ | refine exQ_hit ?_ | refine exQ_other rfl ?_ | refine exQ_ret ?_ | refine exQ_normal ?_ | refine blockQ_ret ?_ | refine blockQ_normal ?_ | refine blockQ_exit ?_ | refine blockQ_other rfl ?_ | refine noGoto_ret ?_ | refine noGoto_exit ?_ | refine noGoto_normal ?_))
    refine awp_ret ?_
    (repeat (first | refine thenQ_exit ?_ | refine thenQ_ret ?_ | refine exQ_hit ?_ | refine exQ_other rfl ?_ | refine exQ_ret ?_ | refine exQ_normal ?_ | refine blockQ_ret ?_ | refine blockQ_normal ?_ | refine blockQ_exit ?_ | refine blockQ_other rfl ?_ | refine noGoto_ret ?_ | refine noGoto_exit ?_ | refine noGoto_normal ?_))
    refine reta_mk rfl ?_
    exact AV.sub_vec _ _ _ _

set_option maxHeartbeats 4000000 in
theorem slices_Clone_api_Type_api_Type_row (l : List TType) (h : l.isEmpty = false) (hlen : l.length * 56 ≤ 140737488355328) : OCalls Tryz.prog 151 [.p (eL eTType l)] [] (fun x y => x = .arr 2000000 3 0 l.length ∧ y = [(2000000, rowC eTType l)]) := by
  refine obodyG good [800000] [800000] Tryz.func151 rfl rfl rfl rfl rfl fun w0 F => ?_
  refine awp_seq ?_
  refine awp_reg ?_
  refine rwpL_op rfl ?_
  refine ok_assign rfl rfl rfl rfl ?_
  refine rwpL_nil ?_
  (repeat (first | refine thenQ_exit ?_ | refine thenQ_ret ?_ | refine exQ_hit ?_ | refine exQ_other rfl ?_ | refine exQ_ret ?_ | refine exQ_normal ?_ | refine blockQ_ret ?_ | refine blockQ_normal ?_ | refine blockQ_exit ?_ | refine blockQ_other rfl ?_ | refine noGoto_ret ?_ | refine noGoto_exit ?_ | refine noGoto_normal ?_))
  refine awp_seq ?_
  refine awp_seq ?_
  refine awp_reg ?_
  refine rwpL_op rfl ?_
  refine ok_move rfl rfl rfl rfl ?_
  refine rwpL_op rfl ?_
  refine op_isNil rfl rfl rfl rfl rfl rfl rfl rfl (fun b hb => ?_)
  refine rwpL_nil ?_
  (repeat (first | refine thenQ_exit ?_ | refine thenQ_ret ?_ | refine exQ_hit ?_ | refine exQ_other rfl ?_ | refine exQ_ret ?_ | refine exQ_normal ?_ | refine blockQ_ret ?_ | refine blockQ_normal ?_ | refine blockQ_exit ?_ | refine blockQ_other rfl ?_ | refine noGoto_ret ?_ | refine noGoto_exit ?_ | refine noGoto_normal ?_))
  refine wp_if rfl (fun hc => ?_) (fun hc => ?_)
  · have he : l = [] := by simpa using hb hc
    subst he
    cases h
  · skip
    refine awp_skip ?_
    (repeat (first | refine thenQ_exit ?_ | refine thenQ_ret ?_ | refine exQ_hit ?_ | refine exQ_other rfl ?_ | refine exQ_ret ?_ | refine exQ_normal ?_ | refine blockQ_ret ?_ | refine blockQ_normal ?_ | refine blockQ_exit ?_ | refine blockQ_other rfl ?_ | refine noGoto_ret ?_ | refine noGoto_exit ?_ | refine noGoto_normal ?_))
    refine awp_seq ?_
    refine awp_reg ?_
    refine rwpL_op rfl ?_
    refine op_emptyA rfl rfl rfl rfl rfl rfl 3 ?_
    refine rwpL_op rfl ?_
    refine ok_move rfl rfl rfl rfl ?_
    refine rwpL_op rfl ?_
    refine op_rowA eTType [] l rfl rfl rfl rfl rfl rfl rfl rfl rfl rfl rfl rfl rfl rfl rfl (fun x => congrArg List.length (TType.cells_eq x)) rfl rfl rfl (by simpa using hlen) ?_
    refine rwpL_op rfl ?_
    refine ok_assign rfl rfl rfl rfl ?_
    refine rwpL_nil ?_
    (repeat (first | refine thenQ_exit ?_ | refine thenQ_ret ?_ | refine exQ_hit ?_ | refine exQ_other rfl ?_ | refine exQ_ret ?_ | refine exQ_normal ?_ | refine blockQ_ret ?_ | refine blockQ_normal ?_ | refine blockQ_exit ?_ | refine blockQ_other rfl ?_ | refine noGoto_ret ?_ | refine noGoto_exit ?_ | refine noGoto_normal ?_))
    refine awp_ret ?_
    (repeat (first | refine thenQ_exit ?_ | refine thenQ_ret ?_ | refine exQ_hit ?_ | refine exQ_other rfl ?_ | refine exQ_ret ?_ | refine exQ_normal ?_ | refine blockQ_ret ?_ | refine blockQ_normal ?_ | refine blockQ_exit ?_ | refine blockQ_other rfl ?_ | refine noGoto_ret ?_ | refine noGoto_exit ?_ | refine noGoto_normal ?_))
    exact retg_mk (ghost_ren 7 800000 rfl rfl rfl rfl (mapO_cons rfl (mapA_go_p _) rfl)) rfl rfl rfl (mapO_cons rfl (mapA_go_p _) rfl) (AV.sub_of_eq (congrArg (AV.arr 2000000 3 0) (by simp))) ⟨⟨_, rfl, subL_refl _⟩, trivial⟩

end Go.Ab
