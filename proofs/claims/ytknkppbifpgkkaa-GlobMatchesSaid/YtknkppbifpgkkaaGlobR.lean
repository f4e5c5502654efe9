/- Functions of the reference of package glob and of its laws, each as a function on data and by a walk: it computes that. -/
import Derived.Test.YtknkppbifpgkkaaGlobA
import Derived.Test.YtknkppbifpgkkaaGlobY
import Derived.Test.YtknkppbifpgkkaaAbQ
set_option linter.unusedVariables false
set_option linter.unusedSimpArgs false
set_option linter.unnecessarySimpa false
namespace Go.Ab.Glob
open Go.Proofs Go.Ab
attribute [local irreducible] awp rwpL OpOk PCalls OCalls AV.sub

def ref05_step_l1 (l_0 : List Bool) (s_1 : Bytes) (b_2 : Int) (any_3 : Bool) (all_4 : Bool) : Nat → Int → (List Bool) → Option (List Bool)
  | 0, _, _ => none
  | m + 1, i31, l32 =>
  if i31 < (l_0.length : Int) then
    (
        if any_3 = true then
          ck ((0 : Int) ≤ i31 ∧ i31 < (l_0.length : Int)) <|
          if (lat l_0 i31) = true then
            ck ((0 : Int) ≤ i31 ∧ i31 < (l32.length : Int)) <|
            some (l32.set i31.toNat true)
          else
            if 0 < i31 then
              ck (inR (i31 - 1)) <|
              ck ((0 : Int) ≤ i31 - 1 ∧ i31 - 1 < (l32.length : Int)) <|
              if (lat l32 (i31 - 1)) = true then
                if all_4 = true then
                  ck ((0 : Int) ≤ i31 ∧ i31 < (l32.length : Int)) <|
                  some (l32.set i31.toNat true)
                else
                  ck (inR (i31 - 1)) <|
                  ck ((0 : Int) ≤ i31 - 1 ∧ i31 - 1 < (s_1.length : Int)) <|
                  ck ((0 : Int) ≤ i31 ∧ i31 < (l32.length : Int)) <|
                  some (l32.set i31.toNat (!decide (byt s_1 (i31 - 1) = 46)))
              else
                ck ((0 : Int) ≤ i31 ∧ i31 < (l32.length : Int)) <|
                some (l32.set i31.toNat false)
            else
              ck ((0 : Int) ≤ i31 ∧ i31 < (l32.length : Int)) <|
              some (l32.set i31.toNat false)
        else
          if 0 < i31 then
            ck (inR (i31 - 1)) <|
            ck ((0 : Int) ≤ i31 - 1 ∧ i31 - 1 < (l_0.length : Int)) <|
            if (lat l_0 (i31 - 1)) = true then
              ck (inR (i31 - 1)) <|
              ck ((0 : Int) ≤ i31 - 1 ∧ i31 - 1 < (s_1.length : Int)) <|
              ck ((0 : Int) ≤ i31 ∧ i31 < (l32.length : Int)) <|
              some (l32.set i31.toNat (decide (byt s_1 (i31 - 1) = b_2)))
            else
              ck ((0 : Int) ≤ i31 ∧ i31 < (l32.length : Int)) <|
              some (l32.set i31.toNat false)
          else
            ck ((0 : Int) ≤ i31 ∧ i31 < (l32.length : Int)) <|
            some (l32.set i31.toNat false)
      : Option (List Bool)).bind fun l58 =>
    ck (inR (i31 + 1)) <|
    ref05_step_l1 l_0 s_1 b_2 any_3 all_4 m (i31 + 1) l58
  else
    some l32

def ref05_step (n : Nat) (l_0 : List Bool) (s_1 : Bytes) (b_2 : Int) (any_3 : Bool) (all_4 : Bool) : Option (List Bool) :=
  ck ((0 : Int) ≤ (l_0.length : Int) ∧ (l_0.length : Int) ≤ 9223372036854775807 ∧ (1 : Int) * (l_0.length : Int) ≤ 281474976710656) <|
  (ref05_step_l1 l_0 s_1 b_2 any_3 all_4 n 0 (List.replicate (l_0.length : Int).toNat (false : Bool))).bind fun l62 =>
  some l62

set_option maxHeartbeats 4000000 in
theorem ref05_step_ok (n : Nat) (l_0 : List Bool) (s_1 : Bytes) (b_2 : Int) (any_3 : Bool) (all_4 : Bool) (r : (List Bool)) (h0 : ref05_step n l_0 s_1 b_2 any_3 all_4 = some r) : PCalls Try.prog 26 [eL eB l_0, eS s_1, eK .u8 b_2, eB any_3, eB all_4] (· = .p (eL eB r)) := by
  unfold ref05_step at h0
  refine pbody good Try.func26 rfl rfl rfl fun w0 => ?_
  refine awp_seq ?_
  refine awp_reg ?_
  refine rwpL_op rfl ?_
  refine ok_assign rfl rfl rfl rfl ?_
  refine rwpL_nil ?_
  refine awp_seq ?_
  refine awp_reg ?_
  refine rwpL_op rfl ?_
  refine ok_move rfl rfl rfl rfl ?_
  refine rwpL_op rfl ?_
  refine op_lenL (f := eB) (l := l_0) rfl rfl rfl rfl rfl rfl rfl ?_
  obtain ⟨h1, h0⟩ := ck_cut h0
  refine rwpL_op rfl ?_
  refine op_make eB (false : Bool) rfl rfl rfl rfl rfl rfl rfl rfl rfl rfl rfl h1 ?_
  refine rwpL_op rfl ?_
  refine ok_assign rfl rfl rfl rfl ?_
  refine rwpL_nil ?_
  refine awp_seq ?_
  refine awp_seq ?_
  refine awp_reg ?_
  refine rwpL_op rfl ?_
  refine ok_assign rfl rfl rfl rfl ?_
  refine rwpL_nil ?_
  refine awp_block ?_
  obtain ⟨o65, h1, h0⟩ := bd_cut h0
  refine awp_cutE 0 (fun s' => s'.le ⟨[(11, .arr 15 1 0 o65.length)], [(15, (o65.map eB).map .p)]⟩) ?_ ?_
  · intro s' hle
    (repeat (first | refine thenQ_exit ?_ | refine thenQ_ret ?_ | refine exQ_hit ?_ | refine exQ_other rfl ?_ | refine exQ_ret ?_ | refine exQ_normal ?_ | refine blockQ_ret ?_ | refine blockQ_normal ?_ | refine blockQ_exit ?_ | refine blockQ_other rfl ?_ | refine noGoto_ret ?_ | refine noGoto_exit ?_ | refine noGoto_normal ?_))
    refine awp_weaken hle ?_
    (repeat (first | refine thenQ_exit ?_ | refine thenQ_ret ?_ | refine exQ_hit ?_ | refine exQ_other rfl ?_ | refine exQ_ret ?_ | refine exQ_normal ?_ | refine blockQ_ret ?_ | refine blockQ_normal ?_ | refine blockQ_exit ?_ | refine blockQ_other rfl ?_ | refine noGoto_ret ?_ | refine noGoto_exit ?_ | refine noGoto_normal ?_))
    refine awp_seq ?_
    refine awp_reg ?_
    refine rwpL_op rfl ?_
    refine ok_move rfl rfl rfl rfl ?_
    refine rwpL_op rfl ?_
    refine ok_assign rfl rfl rfl rfl ?_
    refine rwpL_nil ?_
    refine awp_ghost (ghost_freezes [10, 11, 71] (f := eB) (l := o65) rfl rfl rfl ⟨⟨_, rfl, rfl⟩, ⟨_, rfl, rfl⟩, ⟨_, rfl, rfl⟩, trivial⟩ (fun _ => ⟨rfl, rfl⟩)) ?_
    refine awp_ret ?_
    (repeat (first | refine thenQ_exit ?_ | refine thenQ_ret ?_ | refine exQ_hit ?_ | refine exQ_other rfl ?_ | refine exQ_ret ?_ | refine exQ_normal ?_ | refine blockQ_ret ?_ | refine blockQ_normal ?_ | refine blockQ_exit ?_ | refine blockQ_other rfl ?_ | refine noGoto_ret ?_ | refine noGoto_exit ?_ | refine noGoto_normal ?_))
    have e0 := Option.some.inj h0
    subst e0
    refine ret_mk rfl ?_
    exact AV.sub_refl _
  · skip
    refine awp_loopF (fun q67 => ⟨[(0, .p (eL eB l_0)), (1, .p (eS s_1)), (2, .p (eK .u8 b_2)), (3, .p (eB any_3)), (4, .p (eB all_4)), (11, .arr 15 1 0 q67.2.length), (12, .p (eI q67.1))], [(15, (q67.2.map eB).map .p)]⟩) (fun m (q67 : Int × (List Bool)) => ref05_step_l1 l_0 s_1 b_2 any_3 all_4 m q67.1 q67.2) (fun _ => rfl) (0, List.replicate (l_0.length : Int).toNat (false : Bool)) h1 (le_mk ⟨⟨_, rfl, AV.sub_refl _⟩, ⟨_, rfl, AV.sub_refl _⟩, ⟨_, rfl, AV.sub_refl _⟩, ⟨_, rfl, AV.sub_refl _⟩, ⟨_, rfl, AV.sub_refl _⟩, ⟨_, rfl, AV.sub_of_eq (by simp)⟩, ⟨_, rfl, AV.sub_refl _⟩, trivial⟩ ⟨⟨_, rfl, subL_refl _⟩, trivial⟩) ?_
    rintro m ⟨i31, l32⟩ h1
    replace h1 : ref05_step_l1 l_0 s_1 b_2 any_3 all_4 (m + 1) i31 l32 = some o65 := h1
    rw [ref05_step_l1] at h1
    refine awp_seq ?_
    refine awp_seq ?_
    refine awp_reg ?_
    refine rwpL_op rfl ?_
    refine ok_move rfl rfl rfl rfl ?_
    refine rwpL_op rfl ?_
    refine ok_move rfl rfl rfl rfl ?_
    refine rwpL_op rfl ?_
    refine op_lenL (f := eB) (l := l_0) rfl rfl rfl rfl rfl rfl rfl ?_
    refine rwpL_op rfl ?_
    refine ok_cmp rfl rfl rfl rfl rfl rfl ?_
    refine rwpL_nil ?_
    refine wp_ifD rfl (fun c33 => ?_) (fun c33 => ?_)
    · replace h1 := if_t c33 h1
      refine awp_skip ?_
      refine awp_seq ?_
      obtain ⟨o68, h2, h1⟩ := bd_cut h1
      refine awp_cutN (fun s' => s'.le ⟨[(0, .p (eL eB l_0)), (1, .p (eS s_1)), (2, .p (eK .u8 b_2)), (3, .p (eB any_3)), (4, .p (eB all_4)), (11, .arr 15 1 0 o68.length), (12, .p (eI i31))], [(15, (o68.map eB).map .p)]⟩) ?_ ?_
      · intro s' hle
        (repeat (first | refine thenQ_exit ?_ | refine thenQ_ret ?_ | refine exQ_hit ?_ | refine exQ_other rfl ?_ | refine exQ_ret ?_ | refine exQ_normal ?_ | refine blockQ_ret ?_ | refine blockQ_normal ?_ | refine blockQ_exit ?_ | refine blockQ_other rfl ?_ | refine noGoto_ret ?_ | refine noGoto_exit ?_ | refine noGoto_normal ?_))
        refine awp_weaken hle ?_
        refine awp_reg ?_
        refine rwpL_op rfl ?_
        refine ok_move rfl rfl rfl rfl ?_
        obtain ⟨h59, h1⟩ := ck_cut h1
        refine rwpL_op rfl ?_
        refine ok_ar rfl rfl rfl rfl rfl rfl h59 ?_
        refine rwpL_op rfl ?_
        refine ok_assign rfl rfl rfl rfl ?_
        refine rwpL_nil ?_
        (repeat (first | refine thenQ_exit ?_ | refine thenQ_ret ?_ | refine exQ_hit ?_ | refine exQ_other rfl ?_ | refine exQ_ret ?_ | refine exQ_normal ?_ | refine blockQ_ret ?_ | refine blockQ_normal ?_ | refine blockQ_exit ?_ | refine blockQ_other rfl ?_ | refine noGoto_ret ?_ | refine noGoto_exit ?_ | refine noGoto_normal ?_))
        exact ⟨(i31 + 1, o68), h1, le_mk ⟨⟨_, rfl, AV.sub_refl _⟩, ⟨_, rfl, AV.sub_refl _⟩, ⟨_, rfl, AV.sub_refl _⟩, ⟨_, rfl, AV.sub_refl _⟩, ⟨_, rfl, AV.sub_refl _⟩, ⟨_, rfl, AV.sub_of_eq (by simp)⟩, ⟨_, rfl, AV.sub_refl _⟩, trivial⟩ ⟨⟨_, rfl, subL_refl _⟩, trivial⟩⟩
      · refine awp_block ?_
        refine awp_seq ?_
        refine awp_reg ?_
        refine rwpL_op rfl ?_
        refine ok_move rfl rfl rfl rfl ?_
        refine rwpL_nil ?_
        refine wp_if rfl (fun c34 => ?_) (fun c34 => ?_)
        · replace h2 := if_t c34 h2
          refine awp_reg ?_
          refine rwpL_op rfl ?_
          refine ok_move rfl rfl rfl rfl ?_
          refine rwpL_op rfl ?_
          refine ok_move rfl rfl rfl rfl ?_
          refine rwpL_op rfl ?_
          refine ok_move rfl rfl rfl rfl ?_
          refine rwpL_op rfl ?_
          refine ok_move rfl rfl rfl rfl ?_
          obtain ⟨h35, h2⟩ := ck_cut h2
          refine rwpL_op rfl ?_
          refine op_at (f := eB) (l := l_0) (fun x => [eB x]) rfl rfl rfl rfl rfl rfl rfl rfl rfl h35 (fun _ => rfl) (fun _ => rfl) ?_
          refine rwpL_op rfl ?_
          refine ok_loadR1 rfl rfl rfl rfl rfl rfl rfl ?_
          refine rwpL_op rfl ?_
          refine ok_move rfl rfl rfl rfl ?_
          refine gd_B rfl rfl rfl (fun c36 => ?_) (fun c36 => ?_)
          · replace h2 := if_t c36 h2
            refine gd_ft rfl rfl rfl (c36) rfl rfl ?_
            refine gd_ft rfl rfl rfl (c36) rfl rfl ?_
            refine gd_ft rfl rfl rfl (c36) rfl rfl ?_
            refine gd_none rfl rfl rfl rfl rfl ?_
            refine gd_none rfl rfl rfl rfl rfl ?_
            refine gd_none rfl rfl rfl rfl rfl ?_
            refine gd_none rfl rfl rfl rfl rfl ?_
            refine gd_none rfl rfl rfl rfl rfl ?_
            refine gd_ft rfl rfl rfl (c36) rfl rfl ?_
            refine gd_ft rfl rfl rfl (c36) rfl rfl ?_
            refine gd_none rfl rfl rfl rfl rfl ?_
            refine gd_none rfl rfl rfl rfl rfl ?_
            refine gd_none rfl rfl rfl rfl rfl ?_
            refine gd_none rfl rfl rfl rfl rfl ?_
            refine gd_none rfl rfl rfl rfl rfl ?_
            refine gd_none rfl rfl rfl rfl rfl ?_
            refine gd_none rfl rfl rfl rfl rfl ?_
            refine gd_none rfl rfl rfl rfl rfl ?_
            refine gd_ft rfl rfl rfl (c36) rfl rfl ?_
            refine rwpL_op rfl ?_
            refine ok_pick_true rfl rfl rfl rfl (c36) rfl ?_
            obtain ⟨h37, h2⟩ := ck_cut h2
            refine rwpL_op rfl ?_
            refine ok_indexAddrA1 rfl rfl rfl rfl rfl rfl rfl rfl rfl h37 ?_
            refine rwpL_op rfl ?_
            refine ok_storeM (f := eB) (l := l32) (b := true) rfl rfl rfl rfl rfl rfl rfl rfl (by have := h37; omega) ?_
            refine rwpL_nil ?_
            (repeat (first | refine thenQ_exit ?_ | refine thenQ_ret ?_ | refine exQ_hit ?_ | refine exQ_other rfl ?_ | refine exQ_ret ?_ | refine exQ_normal ?_ | refine blockQ_ret ?_ | refine blockQ_normal ?_ | refine blockQ_exit ?_ | refine blockQ_other rfl ?_ | refine noGoto_ret ?_ | refine noGoto_exit ?_ | refine noGoto_normal ?_))
            have e2 := Option.some.inj h2
            subst e2
            exact le_mk ⟨⟨_, rfl, AV.sub_refl _⟩, ⟨_, rfl, AV.sub_refl _⟩, ⟨_, rfl, AV.sub_refl _⟩, ⟨_, rfl, AV.sub_refl _⟩, ⟨_, rfl, AV.sub_refl _⟩, ⟨_, rfl, AV.sub_of_eq (by simp)⟩, ⟨_, rfl, AV.sub_refl _⟩, trivial⟩ ⟨⟨_, rfl, subL_refl _⟩, trivial⟩
          · replace h2 := if_bf c36 h2
            refine gd_ff rfl rfl rfl (c36) ?_
            refine ok_move rfl rfl rfl rfl ?_
            refine gd_ff rfl rfl rfl (c36) ?_
            refine ok_cmp rfl rfl rfl rfl rfl rfl ?_
            refine gd_ff rfl rfl rfl (c36) ?_
            refine ok_move rfl rfl rfl rfl ?_
            refine gd_D rfl rfl rfl (fun c38 => ?_) (fun c38 => ?_)
            · replace h2 := if_t c38 h2
              refine gd_tt rfl rfl rfl (decide_eq_true c38) ?_
              refine ok_move rfl rfl rfl rfl ?_
              refine gd_tt rfl rfl rfl (decide_eq_true c38) ?_
              refine ok_move rfl rfl rfl rfl ?_
              obtain ⟨h39, h2⟩ := ck_cut h2
              refine gd_tt rfl rfl rfl (decide_eq_true c38) ?_
              refine ok_ar rfl rfl rfl rfl rfl rfl h39 ?_
              obtain ⟨h40, h2⟩ := ck_cut h2
              refine gd_tt rfl rfl rfl (decide_eq_true c38) ?_
              refine ok_indexAddrA1 rfl rfl rfl rfl rfl rfl rfl rfl rfl h40 ?_
              refine gd_tt rfl rfl rfl (decide_eq_true c38) ?_
              refine ok_loadM (default : Bool) (f := eB) (l := l32) rfl rfl rfl rfl rfl rfl rfl (by have := h40; omega) ?_
              refine gd_ff rfl rfl rfl (c36) ?_
              refine ok_pick_true rfl rfl rfl rfl (decide_eq_true c38) rfl ?_
              refine gd_ff rfl rfl rfl (c36) ?_
              refine ok_move rfl rfl rfl rfl ?_
              refine gd_B rfl rfl rfl (fun c41 => ?_) (fun c41 => ?_)
              · replace h2 := if_t c41 h2
                refine gd_tt rfl rfl rfl (c41) ?_
                refine ok_move rfl rfl rfl rfl ?_
                refine gd_tt rfl rfl rfl (c41) ?_
                refine ok_move rfl rfl rfl rfl ?_
                refine gd_B rfl rfl rfl (fun c42 => ?_) (fun c42 => ?_)
                · replace h2 := if_t c42 h2
                  refine gd_ft rfl rfl rfl (c42) rfl rfl ?_
                  refine gd_ft rfl rfl rfl (c42) rfl rfl ?_
                  refine gd_ft rfl rfl rfl (c42) rfl rfl ?_
                  refine gd_ft rfl rfl rfl (c42) rfl rfl ?_
                  refine gd_ft rfl rfl rfl (c42) rfl rfl ?_
                  refine gd_tt rfl rfl rfl (c41) ?_
                  refine ok_pick_true rfl rfl rfl rfl (c42) rfl ?_
                  refine gd_ff rfl rfl rfl (c36) ?_
                  refine ok_pick_true rfl rfl rfl rfl (c41) rfl ?_
                  refine rwpL_op rfl ?_
                  refine ok_pick_false rfl rfl rfl rfl (c36) rfl ?_
                  obtain ⟨h43, h2⟩ := ck_cut h2
                  refine rwpL_op rfl ?_
                  refine ok_indexAddrA1 rfl rfl rfl rfl rfl rfl rfl rfl rfl h43 ?_
                  refine rwpL_op rfl ?_
                  refine ok_storeM (f := eB) (l := l32) (b := true) rfl rfl rfl rfl rfl rfl rfl rfl (by have := h43; omega) ?_
                  refine rwpL_nil ?_
                  (repeat (first | refine thenQ_exit ?_ | refine thenQ_ret ?_ | refine exQ_hit ?_ | refine exQ_other rfl ?_ | refine exQ_ret ?_ | refine exQ_normal ?_ | refine blockQ_ret ?_ | refine blockQ_normal ?_ | refine blockQ_exit ?_ | refine blockQ_other rfl ?_ | refine noGoto_ret ?_ | refine noGoto_exit ?_ | refine noGoto_normal ?_))
                  have e2 := Option.some.inj h2
                  subst e2
                  exact le_mk ⟨⟨_, rfl, AV.sub_refl _⟩, ⟨_, rfl, AV.sub_refl _⟩, ⟨_, rfl, AV.sub_refl _⟩, ⟨_, rfl, AV.sub_refl _⟩, ⟨_, rfl, AV.sub_refl _⟩, ⟨_, rfl, AV.sub_of_eq (by simp)⟩, ⟨_, rfl, AV.sub_refl _⟩, trivial⟩ ⟨⟨_, rfl, subL_refl _⟩, trivial⟩
                · replace h2 := if_bf c42 h2
                  refine gd_ff rfl rfl rfl (c42) ?_
                  refine ok_move rfl rfl rfl rfl ?_
                  refine gd_ff rfl rfl rfl (c42) ?_
                  refine ok_move rfl rfl rfl rfl ?_
                  obtain ⟨h44, h2⟩ := ck_cut h2
                  refine gd_ff rfl rfl rfl (c42) ?_
                  refine ok_ar rfl rfl rfl rfl rfl rfl h44 ?_
                  obtain ⟨h45, h2⟩ := ck_cut h2
                  refine gd_ff rfl rfl rfl (c42) ?_
                  refine op_indexS rfl rfl rfl rfl rfl rfl rfl h45 ?_
                  refine gd_ff rfl rfl rfl (c42) ?_
                  refine ok_cmp rfl rfl rfl rfl rfl rfl ?_
                  refine gd_tt rfl rfl rfl (c41) ?_
                  refine ok_pick_false rfl rfl rfl rfl (c42) rfl ?_
                  refine gd_ff rfl rfl rfl (c36) ?_
                  refine ok_pick_true rfl rfl rfl rfl (c41) rfl ?_
                  refine rwpL_op rfl ?_
                  refine ok_pick_false rfl rfl rfl rfl (c36) rfl ?_
                  obtain ⟨h46, h2⟩ := ck_cut h2
                  refine rwpL_op rfl ?_
                  refine ok_indexAddrA1 rfl rfl rfl rfl rfl rfl rfl rfl rfl h46 ?_
                  refine rwpL_op rfl ?_
                  refine ok_storeM (f := eB) (l := l32) (b := !decide (byt s_1 (i31 - 1) = 46)) rfl rfl rfl rfl rfl rfl rfl rfl (by have := h46; omega) ?_
                  refine rwpL_nil ?_
                  (repeat (first | refine thenQ_exit ?_ | refine thenQ_ret ?_ | refine exQ_hit ?_ | refine exQ_other rfl ?_ | refine exQ_ret ?_ | refine exQ_normal ?_ | refine blockQ_ret ?_ | refine blockQ_normal ?_ | refine blockQ_exit ?_ | refine blockQ_other rfl ?_ | refine noGoto_ret ?_ | refine noGoto_exit ?_ | refine noGoto_normal ?_))
                  have e2 := Option.some.inj h2
                  subst e2
                  exact le_mk ⟨⟨_, rfl, AV.sub_refl _⟩, ⟨_, rfl, AV.sub_refl _⟩, ⟨_, rfl, AV.sub_refl _⟩, ⟨_, rfl, AV.sub_refl _⟩, ⟨_, rfl, AV.sub_refl _⟩, ⟨_, rfl, AV.sub_of_eq (by simp)⟩, ⟨_, rfl, AV.sub_refl _⟩, trivial⟩ ⟨⟨_, rfl, subL_refl _⟩, trivial⟩
              · replace h2 := if_bf c41 h2
                refine gd_tf rfl rfl rfl (c41) rfl rfl ?_
                refine gd_tf rfl rfl rfl (c41) rfl rfl ?_
                refine gd_none rfl rfl rfl rfl rfl ?_
                refine gd_none rfl rfl rfl rfl rfl ?_
                refine gd_none rfl rfl rfl rfl rfl ?_
                refine gd_none rfl rfl rfl rfl rfl ?_
                refine gd_none rfl rfl rfl rfl rfl ?_
                refine gd_tf rfl rfl rfl (c41) rfl rfl ?_
                refine gd_ff rfl rfl rfl (c36) ?_
                refine ok_pick_false rfl rfl rfl rfl (c41) rfl ?_
                refine rwpL_op rfl ?_
                refine ok_pick_false rfl rfl rfl rfl (c36) rfl ?_
                obtain ⟨h47, h2⟩ := ck_cut h2
                refine rwpL_op rfl ?_
                refine ok_indexAddrA1 rfl rfl rfl rfl rfl rfl rfl rfl rfl h47 ?_
                refine rwpL_op rfl ?_
                refine ok_storeM (f := eB) (l := l32) (b := false) rfl rfl rfl rfl rfl rfl rfl rfl (by have := h47; omega) ?_
                refine rwpL_nil ?_
                (repeat (first | refine thenQ_exit ?_ | refine thenQ_ret ?_ | refine exQ_hit ?_ | refine exQ_other rfl ?_ | refine exQ_ret ?_ | refine exQ_normal ?_ | refine blockQ_ret ?_ | refine blockQ_normal ?_ | refine blockQ_exit ?_ | refine blockQ_other rfl ?_ | refine noGoto_ret ?_ | refine noGoto_exit ?_ | refine noGoto_normal ?_))
                have e2 := Option.some.inj h2
                subst e2
                exact le_mk ⟨⟨_, rfl, AV.sub_refl _⟩, ⟨_, rfl, AV.sub_refl _⟩, ⟨_, rfl, AV.sub_refl _⟩, ⟨_, rfl, AV.sub_refl _⟩, ⟨_, rfl, AV.sub_refl _⟩, ⟨_, rfl, AV.sub_of_eq (by simp)⟩, ⟨_, rfl, AV.sub_refl _⟩, trivial⟩ ⟨⟨_, rfl, subL_refl _⟩, trivial⟩
            · replace h2 := if_f c38 h2
              refine gd_tf rfl rfl rfl (decide_eq_false c38) rfl rfl ?_
              refine gd_tf rfl rfl rfl (decide_eq_false c38) rfl rfl ?_
              refine gd_tf rfl rfl rfl (decide_eq_false c38) rfl rfl ?_
              refine gd_tf rfl rfl rfl (decide_eq_false c38) rfl rfl ?_
              refine gd_tf rfl rfl rfl (decide_eq_false c38) rfl rfl ?_
              refine gd_ff rfl rfl rfl (c36) ?_
              refine ok_pick_false rfl rfl rfl rfl (decide_eq_false c38) rfl ?_
              refine gd_ff rfl rfl rfl (c36) ?_
              refine ok_move rfl rfl rfl rfl ?_
              refine gd_tf rfl rfl rfl (rfl) rfl rfl ?_
              refine gd_tf rfl rfl rfl (rfl) rfl rfl ?_
              refine gd_none rfl rfl rfl rfl rfl ?_
              refine gd_none rfl rfl rfl rfl rfl ?_
              refine gd_none rfl rfl rfl rfl rfl ?_
              refine gd_none rfl rfl rfl rfl rfl ?_
              refine gd_none rfl rfl rfl rfl rfl ?_
              refine gd_tf rfl rfl rfl (rfl) rfl rfl ?_
              refine gd_ff rfl rfl rfl (c36) ?_
              refine ok_pick_false rfl rfl rfl rfl (rfl) rfl ?_
              refine rwpL_op rfl ?_
              refine ok_pick_false rfl rfl rfl rfl (c36) rfl ?_
              obtain ⟨h48, h2⟩ := ck_cut h2
              refine rwpL_op rfl ?_
              refine ok_indexAddrA1 rfl rfl rfl rfl rfl rfl rfl rfl rfl h48 ?_
              refine rwpL_op rfl ?_
              refine ok_storeM (f := eB) (l := l32) (b := false) rfl rfl rfl rfl rfl rfl rfl rfl (by have := h48; omega) ?_
              refine rwpL_nil ?_
              (repeat (first | refine thenQ_exit ?_ | refine thenQ_ret ?_ | refine exQ_hit ?_ | refine exQ_other rfl ?_ | refine exQ_ret ?_ | refine exQ_normal ?_ | refine blockQ_ret ?_ | refine blockQ_normal ?_ | refine blockQ_exit ?_ | refine blockQ_other rfl ?_ | refine noGoto_ret ?_ | refine noGoto_exit ?_ | refine noGoto_normal ?_))
              have e2 := Option.some.inj h2
              subst e2
              exact le_mk ⟨⟨_, rfl, AV.sub_refl _⟩, ⟨_, rfl, AV.sub_refl _⟩, ⟨_, rfl, AV.sub_refl _⟩, ⟨_, rfl, AV.sub_refl _⟩, ⟨_, rfl, AV.sub_refl _⟩, ⟨_, rfl, AV.sub_of_eq (by simp)⟩, ⟨_, rfl, AV.sub_refl _⟩, trivial⟩ ⟨⟨_, rfl, subL_refl _⟩, trivial⟩
        · replace h2 := if_bf c34 h2
          refine awp_reg ?_
          refine rwpL_op rfl ?_
          refine ok_move rfl rfl rfl rfl ?_
          refine rwpL_op rfl ?_
          refine ok_move rfl rfl rfl rfl ?_
          refine rwpL_op rfl ?_
          refine ok_move rfl rfl rfl rfl ?_
          refine rwpL_op rfl ?_
          refine ok_cmp rfl rfl rfl rfl rfl rfl ?_
          refine rwpL_op rfl ?_
          refine ok_move rfl rfl rfl rfl ?_
          refine gd_D rfl rfl rfl (fun c49 => ?_) (fun c49 => ?_)
          · replace h2 := if_t c49 h2
            refine gd_tt rfl rfl rfl (decide_eq_true c49) ?_
            refine ok_move rfl rfl rfl rfl ?_
            refine gd_tt rfl rfl rfl (decide_eq_true c49) ?_
            refine ok_move rfl rfl rfl rfl ?_
            obtain ⟨h50, h2⟩ := ck_cut h2
            refine gd_tt rfl rfl rfl (decide_eq_true c49) ?_
            refine ok_ar rfl rfl rfl rfl rfl rfl h50 ?_
            obtain ⟨h51, h2⟩ := ck_cut h2
            refine gd_tt rfl rfl rfl (decide_eq_true c49) ?_
            refine op_at (f := eB) (l := l_0) (fun x => [eB x]) rfl rfl rfl rfl rfl rfl rfl rfl rfl h51 (fun _ => rfl) (fun _ => rfl) ?_
            refine gd_tt rfl rfl rfl (decide_eq_true c49) ?_
            refine ok_loadR1 rfl rfl rfl rfl rfl rfl rfl ?_
            refine rwpL_op rfl ?_
            refine ok_pick_true rfl rfl rfl rfl (decide_eq_true c49) rfl ?_
            refine rwpL_op rfl ?_
            refine ok_move rfl rfl rfl rfl ?_
            refine gd_B rfl rfl rfl (fun c52 => ?_) (fun c52 => ?_)
            · replace h2 := if_t c52 h2
              refine gd_tt rfl rfl rfl (c52) ?_
              refine ok_move rfl rfl rfl rfl ?_
              refine gd_tt rfl rfl rfl (c52) ?_
              refine ok_move rfl rfl rfl rfl ?_
              obtain ⟨h53, h2⟩ := ck_cut h2
              refine gd_tt rfl rfl rfl (c52) ?_
              refine ok_ar rfl rfl rfl rfl rfl rfl h53 ?_
              obtain ⟨h54, h2⟩ := ck_cut h2
              refine gd_tt rfl rfl rfl (c52) ?_
              refine op_indexS rfl rfl rfl rfl rfl rfl rfl h54 ?_
              refine gd_tt rfl rfl rfl (c52) ?_
              refine ok_move rfl rfl rfl rfl ?_
              refine gd_tt rfl rfl rfl (c52) ?_
              refine ok_cmp rfl rfl rfl rfl rfl rfl ?_
              refine rwpL_op rfl ?_
              refine ok_pick_true rfl rfl rfl rfl (c52) rfl ?_
              obtain ⟨h55, h2⟩ := ck_cut h2
              refine rwpL_op rfl ?_
              refine ok_indexAddrA1 rfl rfl rfl rfl rfl rfl rfl rfl rfl h55 ?_
              refine rwpL_op rfl ?_
              refine ok_storeM (f := eB) (l := l32) (b := decide (byt s_1 (i31 - 1) = b_2)) rfl rfl rfl rfl rfl rfl rfl rfl (by have := h55; omega) ?_
              refine rwpL_nil ?_
              (repeat (first | refine thenQ_exit ?_ | refine thenQ_ret ?_ | refine exQ_hit ?_ | refine exQ_other rfl ?_ | refine exQ_ret ?_ | refine exQ_normal ?_ | refine blockQ_ret ?_ | refine blockQ_normal ?_ | refine blockQ_exit ?_ | refine blockQ_other rfl ?_ | refine noGoto_ret ?_ | refine noGoto_exit ?_ | refine noGoto_normal ?_))
              have e2 := Option.some.inj h2
              subst e2
              exact le_mk ⟨⟨_, rfl, AV.sub_refl _⟩, ⟨_, rfl, AV.sub_refl _⟩, ⟨_, rfl, AV.sub_refl _⟩, ⟨_, rfl, AV.sub_refl _⟩, ⟨_, rfl, AV.sub_refl _⟩, ⟨_, rfl, AV.sub_of_eq (by simp)⟩, ⟨_, rfl, AV.sub_refl _⟩, trivial⟩ ⟨⟨_, rfl, subL_refl _⟩, trivial⟩
            · replace h2 := if_bf c52 h2
              refine gd_tf rfl rfl rfl (c52) rfl rfl ?_
              refine gd_tf rfl rfl rfl (c52) rfl rfl ?_
              refine gd_tf rfl rfl rfl (c52) rfl rfl ?_
              refine gd_tf rfl rfl rfl (c52) rfl rfl ?_
              refine gd_tf rfl rfl rfl (c52) rfl rfl ?_
              refine gd_tf rfl rfl rfl (c52) rfl rfl ?_
              refine rwpL_op rfl ?_
              refine ok_pick_false rfl rfl rfl rfl (c52) rfl ?_
              obtain ⟨h56, h2⟩ := ck_cut h2
              refine rwpL_op rfl ?_
              refine ok_indexAddrA1 rfl rfl rfl rfl rfl rfl rfl rfl rfl h56 ?_
              refine rwpL_op rfl ?_
              refine ok_storeM (f := eB) (l := l32) (b := false) rfl rfl rfl rfl rfl rfl rfl rfl (by have := h56; omega) ?_
              refine rwpL_nil ?_
              (repeat (first | refine thenQ_exit ?_ | refine thenQ_ret ?_ | refine exQ_hit ?_ | refine exQ_other rfl ?_ | refine exQ_ret ?_ | refine exQ_normal ?_ | refine blockQ_ret ?_ | refine blockQ_normal ?_ | refine blockQ_exit ?_ | refine blockQ_other rfl ?_ | refine noGoto_ret ?_ | refine noGoto_exit ?_ | refine noGoto_normal ?_))
              have e2 := Option.some.inj h2
              subst e2
              exact le_mk ⟨⟨_, rfl, AV.sub_refl _⟩, ⟨_, rfl, AV.sub_refl _⟩, ⟨_, rfl, AV.sub_refl _⟩, ⟨_, rfl, AV.sub_refl _⟩, ⟨_, rfl, AV.sub_refl _⟩, ⟨_, rfl, AV.sub_of_eq (by simp)⟩, ⟨_, rfl, AV.sub_refl _⟩, trivial⟩ ⟨⟨_, rfl, subL_refl _⟩, trivial⟩
          · replace h2 := if_f c49 h2
            refine gd_tf rfl rfl rfl (decide_eq_false c49) rfl rfl ?_
            refine gd_tf rfl rfl rfl (decide_eq_false c49) rfl rfl ?_
            refine gd_tf rfl rfl rfl (decide_eq_false c49) rfl rfl ?_
            refine gd_tf rfl rfl rfl (decide_eq_false c49) rfl rfl ?_
            refine gd_tf rfl rfl rfl (decide_eq_false c49) rfl rfl ?_
            refine rwpL_op rfl ?_
            refine ok_pick_false rfl rfl rfl rfl (decide_eq_false c49) rfl ?_
            refine rwpL_op rfl ?_
            refine ok_move rfl rfl rfl rfl ?_
            refine gd_tf rfl rfl rfl (rfl) rfl rfl ?_
            refine gd_tf rfl rfl rfl (rfl) rfl rfl ?_
            refine gd_tf rfl rfl rfl (rfl) rfl rfl ?_
            refine gd_tf rfl rfl rfl (rfl) rfl rfl ?_
            refine gd_tf rfl rfl rfl (rfl) rfl rfl ?_
            refine gd_tf rfl rfl rfl (rfl) rfl rfl ?_
            refine rwpL_op rfl ?_
            refine ok_pick_false rfl rfl rfl rfl (rfl) rfl ?_
            obtain ⟨h57, h2⟩ := ck_cut h2
            refine rwpL_op rfl ?_
            refine ok_indexAddrA1 rfl rfl rfl rfl rfl rfl rfl rfl rfl h57 ?_
            refine rwpL_op rfl ?_
            refine ok_storeM (f := eB) (l := l32) (b := false) rfl rfl rfl rfl rfl rfl rfl rfl (by have := h57; omega) ?_
            refine rwpL_nil ?_
            (repeat (first | refine thenQ_exit ?_ | refine thenQ_ret ?_ | refine exQ_hit ?_ | refine exQ_other rfl ?_ | refine exQ_ret ?_ | refine exQ_normal ?_ | refine blockQ_ret ?_ | refine blockQ_normal ?_ | refine blockQ_exit ?_ | refine blockQ_other rfl ?_ | refine noGoto_ret ?_ | refine noGoto_exit ?_ | refine noGoto_normal ?_))
            have e2 := Option.some.inj h2
            subst e2
            exact le_mk ⟨⟨_, rfl, AV.sub_refl _⟩, ⟨_, rfl, AV.sub_refl _⟩, ⟨_, rfl, AV.sub_refl _⟩, ⟨_, rfl, AV.sub_refl _⟩, ⟨_, rfl, AV.sub_refl _⟩, ⟨_, rfl, AV.sub_of_eq (by simp)⟩, ⟨_, rfl, AV.sub_refl _⟩, trivial⟩ ⟨⟨_, rfl, subL_refl _⟩, trivial⟩
    · replace h1 := if_f c33 h1
      refine awp_exit ?_
      (repeat (first | refine thenQ_exit ?_ | refine thenQ_ret ?_ | refine exQ_hit ?_ | refine exQ_other rfl ?_ | refine exQ_ret ?_ | refine exQ_normal ?_ | refine blockQ_ret ?_ | refine blockQ_normal ?_ | refine blockQ_exit ?_ | refine blockQ_other rfl ?_ | refine noGoto_ret ?_ | refine noGoto_exit ?_ | refine noGoto_normal ?_))
      have e1 := Option.some.inj h1
      subst e1
      exact le_mk ⟨⟨_, rfl, AV.sub_of_eq (by simp)⟩, trivial⟩ ⟨⟨_, rfl, subL_refl _⟩, trivial⟩

def ref05_Match_l1 (n : Nat) (pattern_0 : Bytes) (s_1 : Bytes) : Nat → (List Bool) → Int → Option (List Bool)
  | 0, _, _ => none
  | m + 1, l40, i41 =>
  if i41 < (pattern_0.length : Int) then
    (
        ck ((0 : Int) ≤ i41 ∧ i41 < (pattern_0.length : Int)) <|
        (
            if byt pattern_0 i41 = 42 then
              ck (inR (i41 + 1)) <|
              if i41 + 1 < (pattern_0.length : Int) then
                ck (inR (i41 + 1)) <|
                ck ((0 : Int) ≤ i41 + 1 ∧ i41 + 1 < (pattern_0.length : Int)) <|
                some (decide (byt pattern_0 (i41 + 1) = 42))
              else
                some false
            else
              some false
          : Option Bool).bind fun all49 =>
        ck ((0 : Int) ≤ i41 ∧ i41 < (pattern_0.length : Int)) <|
        (ref05_step n l40 s_1 (byt pattern_0 i41) (decide (byt pattern_0 i41 = 42)) all49).bind fun r51 =>
        if all49 = true then
          ck (inR (i41 + 1)) <|
          some (r51, i41 + 1)
        else
          some (r51, i41)
      : Option ((List Bool) × Int)).bind fun q63 =>
    ck (inR (q63.2 + 1)) <|
    ref05_Match_l1 n pattern_0 s_1 m q63.1 (q63.2 + 1)
  else
    some l40

def ref05_Match (n : Nat) (pattern_0 : Bytes) (s_1 : Bytes) : Option Bool :=
  ck (pattern_0.length ≤ 65536) <|
  if rcheck pattern_0 = 0 then
    ck (inR ((s_1.length : Int) + 1)) <|
    ck ((0 : Int) ≤ (s_1.length : Int) + 1 ∧ (s_1.length : Int) + 1 ≤ 9223372036854775807 ∧ (1 : Int) * ((s_1.length : Int) + 1) ≤ 281474976710656) <|
    ck ((0 : Int) ≤ 0 ∧ 0 < ((List.replicate ((s_1.length : Int) + 1).toNat (false : Bool)).length : Int)) <|
    (ref05_Match_l1 n pattern_0 s_1 n ((List.replicate ((s_1.length : Int) + 1).toNat (false : Bool)).set ((0 : Int).toNat) true) 0).bind fun l60 =>
    ck ((0 : Int) ≤ (s_1.length : Int) ∧ (s_1.length : Int) < (l60.length : Int)) <|
    some (lat l60 (s_1.length : Int))
  else
    some false

set_option maxHeartbeats 4000000 in
theorem ref05_Match_ok (n : Nat) (pattern_0 : Bytes) (s_1 : Bytes) (r : Bool) (h0 : ref05_Match n pattern_0 s_1 = some r) : PCalls Try.prog 14 [eS pattern_0, eS s_1] (· = .p (eB r)) := by
  unfold ref05_Match at h0
  refine pbody good Try.func14 rfl rfl rfl fun w0 => ?_
  refine awp_seq ?_
  refine awp_reg ?_
  refine rwpL_op rfl ?_
  refine ok_assign rfl rfl rfl rfl ?_
  refine rwpL_nil ?_
  refine awp_seq ?_
  refine awp_seq ?_
  refine awp_reg ?_
  refine rwpL_op rfl ?_
  refine ok_move rfl rfl rfl rfl ?_
  obtain ⟨h1, h0⟩ := ck_cut h0
  refine rwpL_op rfl ?_
  refine ok_callP (rcheck_ok pattern_0 h1) rfl rfl rfl rfl ⟨AV.sub_refl _, trivial⟩ Try.call10 rfl ?_
  refine rwpL_op rfl ?_
  refine ok_cmp rfl rfl rfl rfl rfl rfl ?_
  refine rwpL_nil ?_
  refine wp_ifN rfl (fun c2 => ?_) (fun c2 => ?_)
  · replace h0 := if_f c2 h0
    refine awp_seq ?_
    refine awp_reg ?_
    refine rwpL_op rfl ?_
    refine ok_assign rfl rfl rfl rfl ?_
    refine rwpL_nil ?_
    refine awp_ret ?_
    (repeat (first | refine thenQ_exit ?_ | refine thenQ_ret ?_ | refine exQ_hit ?_ | refine exQ_other rfl ?_ | refine exQ_ret ?_ | refine exQ_normal ?_ | refine blockQ_ret ?_ | refine blockQ_normal ?_ | refine blockQ_exit ?_ | refine blockQ_other rfl ?_ | refine noGoto_ret ?_ | refine noGoto_exit ?_ | refine noGoto_normal ?_))
    have e0 := Option.some.inj h0
    subst e0
    refine ret_mk rfl ?_
    exact AV.sub_refl _
  · replace h0 := if_t c2 h0
    refine awp_skip ?_
    refine awp_seq ?_
    refine awp_reg ?_
    refine rwpL_op rfl ?_
    refine ok_move rfl rfl rfl rfl ?_
    refine rwpL_op rfl ?_
    refine ok_lenS rfl rfl rfl rfl rfl rfl ?_
    obtain ⟨h3, h0⟩ := ck_cut h0
    refine rwpL_op rfl ?_
    refine ok_ar rfl rfl rfl rfl rfl rfl h3 ?_
    obtain ⟨h4, h0⟩ := ck_cut h0
    refine rwpL_op rfl ?_
    refine op_make eB (false : Bool) rfl rfl rfl rfl rfl rfl rfl rfl rfl rfl rfl h4 ?_
    refine rwpL_op rfl ?_
    refine ok_assign rfl rfl rfl rfl ?_
    refine rwpL_nil ?_
    refine awp_seq ?_
    refine awp_reg ?_
    refine rwpL_op rfl ?_
    refine ok_move rfl rfl rfl rfl ?_
    obtain ⟨h5, h0⟩ := ck_cut h0
    refine rwpL_op rfl ?_
    refine ok_indexAddrA1 rfl rfl rfl rfl rfl rfl rfl rfl rfl h5 ?_
    refine rwpL_op rfl ?_
    refine ok_storeM (f := eB) (l := List.replicate ((s_1.length : Int) + 1).toNat (false : Bool)) (b := true) rfl rfl rfl rfl rfl rfl rfl rfl (by have := h5; omega) ?_
    refine rwpL_nil ?_
    refine awp_seq ?_
    refine awp_seq ?_
    refine awp_reg ?_
    refine rwpL_op rfl ?_
    refine ok_assign rfl rfl rfl rfl ?_
    refine rwpL_nil ?_
    refine awp_block ?_
    refine awp_ghost (ghost_freezes [5, 15, 16] (f := eB) (l := (List.replicate ((s_1.length : Int) + 1).toNat (false : Bool)).set ((0 : Int).toNat) true) rfl rfl rfl ⟨⟨_, rfl, by simp⟩, ⟨_, rfl, by simp⟩, ⟨_, rfl, by simp⟩, trivial⟩ (fun _ => ⟨rfl, rfl⟩)) ?_
    obtain ⟨o65, h1, h0⟩ := bd_cut h0
    refine awp_cutE 0 (fun s' => s'.le ⟨[(1, .p (eS s_1)), (5, .p (eL eB o65))], []⟩) ?_ ?_
    · intro s' hle
      (repeat (first | refine thenQ_exit ?_ | refine thenQ_ret ?_ | refine exQ_hit ?_ | refine exQ_other rfl ?_ | refine exQ_ret ?_ | refine exQ_normal ?_ | refine blockQ_ret ?_ | refine blockQ_normal ?_ | refine blockQ_exit ?_ | refine blockQ_other rfl ?_ | refine noGoto_ret ?_ | refine noGoto_exit ?_ | refine noGoto_normal ?_))
      refine awp_weaken hle ?_
      (repeat (first | refine thenQ_exit ?_ | refine thenQ_ret ?_ | refine exQ_hit ?_ | refine exQ_other rfl ?_ | refine exQ_ret ?_ | refine exQ_normal ?_ | refine blockQ_ret ?_ | refine blockQ_normal ?_ | refine blockQ_exit ?_ | refine blockQ_other rfl ?_ | refine noGoto_ret ?_ | refine noGoto_exit ?_ | refine noGoto_normal ?_))
      refine awp_seq ?_
      refine awp_reg ?_
      refine rwpL_op rfl ?_
      refine ok_move rfl rfl rfl rfl ?_
      refine rwpL_op rfl ?_
      refine ok_move rfl rfl rfl rfl ?_
      refine rwpL_op rfl ?_
      refine ok_lenS rfl rfl rfl rfl rfl rfl ?_
      obtain ⟨h61, h0⟩ := ck_cut h0
      refine rwpL_op rfl ?_
      refine op_at (f := eB) (l := o65) (fun x => [eB x]) rfl rfl rfl rfl rfl rfl rfl rfl rfl h61 (fun _ => rfl) (fun _ => rfl) ?_
      refine rwpL_op rfl ?_
      refine ok_loadR1 rfl rfl rfl rfl rfl rfl rfl ?_
      refine rwpL_op rfl ?_
      refine ok_assign rfl rfl rfl rfl ?_
      refine rwpL_nil ?_
      refine awp_ret ?_
      (repeat (first | refine thenQ_exit ?_ | refine thenQ_ret ?_ | refine exQ_hit ?_ | refine exQ_other rfl ?_ | refine exQ_ret ?_ | refine exQ_normal ?_ | refine blockQ_ret ?_ | refine blockQ_normal ?_ | refine blockQ_exit ?_ | refine blockQ_other rfl ?_ | refine noGoto_ret ?_ | refine noGoto_exit ?_ | refine noGoto_normal ?_))
      have e0 := Option.some.inj h0
      subst e0
      refine ret_mk rfl ?_
      exact AV.sub_refl _
    · skip
      refine awp_loopF (fun q67 => ⟨[(0, .p (eS pattern_0)), (1, .p (eS s_1)), (5, .p (eL eB q67.1)), (6, .p (eI q67.2))], []⟩) (fun m (q67 : (List Bool) × Int) => ref05_Match_l1 n pattern_0 s_1 m q67.1 q67.2) (fun _ => rfl) ((List.replicate ((s_1.length : Int) + 1).toNat (false : Bool)).set ((0 : Int).toNat) true, 0) h1 (le_mk ⟨⟨_, rfl, AV.sub_refl _⟩, ⟨_, rfl, AV.sub_refl _⟩, ⟨_, rfl, AV.sub_refl _⟩, ⟨_, rfl, AV.sub_refl _⟩, trivial⟩ trivial) ?_
      rintro m ⟨l40, i41⟩ h1
      replace h1 : ref05_Match_l1 n pattern_0 s_1 (m + 1) l40 i41 = some o65 := h1
      rw [ref05_Match_l1] at h1
      refine awp_seq ?_
      refine awp_seq ?_
      refine awp_reg ?_
      refine rwpL_op rfl ?_
      refine ok_move rfl rfl rfl rfl ?_
      refine rwpL_op rfl ?_
      refine ok_move rfl rfl rfl rfl ?_
      refine rwpL_op rfl ?_
      refine ok_lenS rfl rfl rfl rfl rfl rfl ?_
      refine rwpL_op rfl ?_
      refine ok_cmp rfl rfl rfl rfl rfl rfl ?_
      refine rwpL_nil ?_
      refine wp_ifD rfl (fun c42 => ?_) (fun c42 => ?_)
      · replace h1 := if_t c42 h1
        refine awp_skip ?_
        refine awp_seq ?_
        obtain ⟨o68, h2, h1⟩ := bd_cut h1
        refine awp_cutN (fun s' => s'.le ⟨[(0, .p (eS pattern_0)), (1, .p (eS s_1)), (5, .p (eL eB o68.1)), (6, .p (eI o68.2))], []⟩) ?_ ?_
        · intro s' hle
          (repeat (first | refine thenQ_exit ?_ | refine thenQ_ret ?_ | refine exQ_hit ?_ | refine exQ_other rfl ?_ | refine exQ_ret ?_ | refine exQ_normal ?_ | refine blockQ_ret ?_ | refine blockQ_normal ?_ | refine blockQ_exit ?_ | refine blockQ_other rfl ?_ | refine noGoto_ret ?_ | refine noGoto_exit ?_ | refine noGoto_normal ?_))
          refine awp_weaken hle ?_
          refine awp_reg ?_
          refine rwpL_op rfl ?_
          refine ok_move rfl rfl rfl rfl ?_
          obtain ⟨h57, h1⟩ := ck_cut h1
          refine rwpL_op rfl ?_
          refine ok_ar rfl rfl rfl rfl rfl rfl h57 ?_
          refine rwpL_op rfl ?_
          refine ok_assign rfl rfl rfl rfl ?_
          refine rwpL_nil ?_
          (repeat (first | refine thenQ_exit ?_ | refine thenQ_ret ?_ | refine exQ_hit ?_ | refine exQ_other rfl ?_ | refine exQ_ret ?_ | refine exQ_normal ?_ | refine blockQ_ret ?_ | refine blockQ_normal ?_ | refine blockQ_exit ?_ | refine blockQ_other rfl ?_ | refine noGoto_ret ?_ | refine noGoto_exit ?_ | refine noGoto_normal ?_))
          exact ⟨(o68.1, o68.2 + 1), h1, le_mk ⟨⟨_, rfl, AV.sub_refl _⟩, ⟨_, rfl, AV.sub_refl _⟩, ⟨_, rfl, AV.sub_refl _⟩, ⟨_, rfl, AV.sub_refl _⟩, trivial⟩ trivial⟩
        · refine awp_block ?_
          refine awp_seq ?_
          refine awp_reg ?_
          refine rwpL_op rfl ?_
          refine ok_move rfl rfl rfl rfl ?_
          refine rwpL_op rfl ?_
          refine ok_move rfl rfl rfl rfl ?_
          obtain ⟨h43, h2⟩ := ck_cut h2
          refine rwpL_op rfl ?_
          refine op_indexS rfl rfl rfl rfl rfl rfl rfl h43 ?_
          refine rwpL_op rfl ?_
          refine ok_cmp rfl rfl rfl rfl rfl rfl ?_
          refine rwpL_op rfl ?_
          refine ok_assign rfl rfl rfl rfl ?_
          refine rwpL_nil ?_
          refine awp_seq ?_
          obtain ⟨o70, h3, h2⟩ := bd_cut h2
          refine awp_cutN (fun s' => s'.le ⟨[(0, .p (eS pattern_0)), (1, .p (eS s_1)), (5, .p (eL eB l40)), (6, .p (eI i41)), (7, .p (eB (decide (byt pattern_0 i41 = 42)))), (8, .p (eB o70))], []⟩) ?_ ?_
          · intro s' hle
            (repeat (first | refine thenQ_exit ?_ | refine thenQ_ret ?_ | refine exQ_hit ?_ | refine exQ_other rfl ?_ | refine exQ_ret ?_ | refine exQ_normal ?_ | refine blockQ_ret ?_ | refine blockQ_normal ?_ | refine blockQ_exit ?_ | refine blockQ_other rfl ?_ | refine noGoto_ret ?_ | refine noGoto_exit ?_ | refine noGoto_normal ?_))
            refine awp_weaken hle ?_
            refine awp_seq ?_
            refine awp_reg ?_
            refine rwpL_op rfl ?_
            refine ok_move rfl rfl rfl rfl ?_
            refine rwpL_op rfl ?_
            refine ok_move rfl rfl rfl rfl ?_
            refine rwpL_op rfl ?_
            refine ok_move rfl rfl rfl rfl ?_
            refine rwpL_op rfl ?_
            refine ok_move rfl rfl rfl rfl ?_
            obtain ⟨h50, h2⟩ := ck_cut h2
            refine rwpL_op rfl ?_
            refine op_indexS rfl rfl rfl rfl rfl rfl rfl h50 ?_
            refine rwpL_op rfl ?_
            refine ok_move rfl rfl rfl rfl ?_
            refine rwpL_op rfl ?_
            refine ok_move rfl rfl rfl rfl ?_
            obtain ⟨r51, e52, h2⟩ := bd_cut h2
            refine rwpL_op rfl ?_
            refine ok_callP (ref05_step_ok _ l40 s_1 (byt pattern_0 i41) (decide (byt pattern_0 i41 = 42)) o70 _ e52) rfl rfl rfl rfl ⟨AV.sub_refl _, AV.sub_refl _, AV.sub_refl _, AV.sub_refl _, AV.sub_refl _, trivial⟩ Try.call26 rfl ?_
            refine rwpL_op rfl ?_
            refine ok_assign rfl rfl rfl rfl ?_
            refine rwpL_nil ?_
            refine awp_seq ?_
            refine awp_reg ?_
            refine rwpL_op rfl ?_
            refine ok_move rfl rfl rfl rfl ?_
            refine rwpL_nil ?_
            refine wp_if rfl (fun c53 => ?_) (fun c53 => ?_)
            · replace h2 := if_t c53 h2
              refine awp_reg ?_
              refine rwpL_op rfl ?_
              refine ok_move rfl rfl rfl rfl ?_
              obtain ⟨h54, h2⟩ := ck_cut h2
              refine rwpL_op rfl ?_
              refine ok_ar rfl rfl rfl rfl rfl rfl h54 ?_
              refine rwpL_op rfl ?_
              refine ok_assign rfl rfl rfl rfl ?_
              refine rwpL_nil ?_
              (repeat (first | refine thenQ_exit ?_ | refine thenQ_ret ?_ | refine exQ_hit ?_ | refine exQ_other rfl ?_ | refine exQ_ret ?_ | refine exQ_normal ?_ | refine blockQ_ret ?_ | refine blockQ_normal ?_ | refine blockQ_exit ?_ | refine blockQ_other rfl ?_ | refine noGoto_ret ?_ | refine noGoto_exit ?_ | refine noGoto_normal ?_))
              have e2 := Option.some.inj h2
              subst e2
              exact le_mk ⟨⟨_, rfl, AV.sub_refl _⟩, ⟨_, rfl, AV.sub_refl _⟩, ⟨_, rfl, AV.sub_refl _⟩, ⟨_, rfl, AV.sub_refl _⟩, trivial⟩ trivial
            · replace h2 := if_bf c53 h2
              refine awp_skip ?_
              (repeat (first | refine thenQ_exit ?_ | refine thenQ_ret ?_ | refine exQ_hit ?_ | refine exQ_other rfl ?_ | refine exQ_ret ?_ | refine exQ_normal ?_ | refine blockQ_ret ?_ | refine blockQ_normal ?_ | refine blockQ_exit ?_ | refine blockQ_other rfl ?_ | refine noGoto_ret ?_ | refine noGoto_exit ?_ | refine noGoto_normal ?_))
              have e2 := Option.some.inj h2
              subst e2
              exact le_mk ⟨⟨_, rfl, AV.sub_refl _⟩, ⟨_, rfl, AV.sub_refl _⟩, ⟨_, rfl, AV.sub_refl _⟩, ⟨_, rfl, AV.sub_refl _⟩, trivial⟩ trivial
          · skip
            refine awp_reg ?_
            refine rwpL_op rfl ?_
            refine ok_move rfl rfl rfl rfl ?_
            refine rwpL_op rfl ?_
            refine ok_move rfl rfl rfl rfl ?_
            refine gd_D rfl rfl rfl (fun c44 => ?_) (fun c44 => ?_)
            · replace h3 := if_t c44 h3
              refine gd_tt rfl rfl rfl (decide_eq_true c44) ?_
              refine ok_move rfl rfl rfl rfl ?_
              obtain ⟨h45, h3⟩ := ck_cut h3
              refine gd_tt rfl rfl rfl (decide_eq_true c44) ?_
              refine ok_ar rfl rfl rfl rfl rfl rfl h45 ?_
              refine gd_tt rfl rfl rfl (decide_eq_true c44) ?_
              refine ok_move rfl rfl rfl rfl ?_
              refine gd_tt rfl rfl rfl (decide_eq_true c44) ?_
              refine ok_lenS rfl rfl rfl rfl rfl rfl ?_
              refine gd_tt rfl rfl rfl (decide_eq_true c44) ?_
              refine ok_cmp rfl rfl rfl rfl rfl rfl ?_
              refine rwpL_op rfl ?_
              refine ok_pick_true rfl rfl rfl rfl (decide_eq_true c44) rfl ?_
              refine rwpL_op rfl ?_
              refine ok_move rfl rfl rfl rfl ?_
              refine gd_D rfl rfl rfl (fun c46 => ?_) (fun c46 => ?_)
              · replace h3 := if_t c46 h3
                refine gd_tt rfl rfl rfl (decide_eq_true c46) ?_
                refine ok_move rfl rfl rfl rfl ?_
                refine gd_tt rfl rfl rfl (decide_eq_true c46) ?_
                refine ok_move rfl rfl rfl rfl ?_
                obtain ⟨h47, h3⟩ := ck_cut h3
                refine gd_tt rfl rfl rfl (decide_eq_true c46) ?_
                refine ok_ar rfl rfl rfl rfl rfl rfl h47 ?_
                obtain ⟨h48, h3⟩ := ck_cut h3
                refine gd_tt rfl rfl rfl (decide_eq_true c46) ?_
                refine op_indexS rfl rfl rfl rfl rfl rfl rfl h48 ?_
                refine gd_tt rfl rfl rfl (decide_eq_true c46) ?_
                refine ok_cmp rfl rfl rfl rfl rfl rfl ?_
                refine rwpL_op rfl ?_
                refine ok_pick_true rfl rfl rfl rfl (decide_eq_true c46) rfl ?_
                refine rwpL_op rfl ?_
                refine ok_assign rfl rfl rfl rfl ?_
                refine rwpL_nil ?_
                (repeat (first | refine thenQ_exit ?_ | refine thenQ_ret ?_ | refine exQ_hit ?_ | refine exQ_other rfl ?_ | refine exQ_ret ?_ | refine exQ_normal ?_ | refine blockQ_ret ?_ | refine blockQ_normal ?_ | refine blockQ_exit ?_ | refine blockQ_other rfl ?_ | refine noGoto_ret ?_ | refine noGoto_exit ?_ | refine noGoto_normal ?_))
                have e3 := Option.some.inj h3
                subst e3
                exact le_mk ⟨⟨_, rfl, AV.sub_refl _⟩, ⟨_, rfl, AV.sub_refl _⟩, ⟨_, rfl, AV.sub_refl _⟩, ⟨_, rfl, AV.sub_refl _⟩, ⟨_, rfl, AV.sub_refl _⟩, ⟨_, rfl, AV.sub_refl _⟩, trivial⟩ trivial
              · replace h3 := if_f c46 h3
                refine gd_tf rfl rfl rfl (decide_eq_false c46) rfl rfl ?_
                refine gd_tf rfl rfl rfl (decide_eq_false c46) rfl rfl ?_
                refine gd_tf rfl rfl rfl (decide_eq_false c46) rfl rfl ?_
                refine gd_tf rfl rfl rfl (decide_eq_false c46) rfl rfl ?_
                refine gd_tf rfl rfl rfl (decide_eq_false c46) rfl rfl ?_
                refine rwpL_op rfl ?_
                refine ok_pick_false rfl rfl rfl rfl (decide_eq_false c46) rfl ?_
                refine rwpL_op rfl ?_
                refine ok_assign rfl rfl rfl rfl ?_
                refine rwpL_nil ?_
                (repeat (first | refine thenQ_exit ?_ | refine thenQ_ret ?_ | refine exQ_hit ?_ | refine exQ_other rfl ?_ | refine exQ_ret ?_ | refine exQ_normal ?_ | refine blockQ_ret ?_ | refine blockQ_normal ?_ | refine blockQ_exit ?_ | refine blockQ_other rfl ?_ | refine noGoto_ret ?_ | refine noGoto_exit ?_ | refine noGoto_normal ?_))
                have e3 := Option.some.inj h3
                subst e3
                exact le_mk ⟨⟨_, rfl, AV.sub_refl _⟩, ⟨_, rfl, AV.sub_refl _⟩, ⟨_, rfl, AV.sub_refl _⟩, ⟨_, rfl, AV.sub_refl _⟩, ⟨_, rfl, AV.sub_refl _⟩, ⟨_, rfl, AV.sub_refl _⟩, trivial⟩ trivial
            · replace h3 := if_f c44 h3
              refine gd_tf rfl rfl rfl (decide_eq_false c44) rfl rfl ?_
              refine gd_tf rfl rfl rfl (decide_eq_false c44) rfl rfl ?_
              refine gd_tf rfl rfl rfl (decide_eq_false c44) rfl rfl ?_
              refine gd_tf rfl rfl rfl (decide_eq_false c44) rfl rfl ?_
              refine gd_tf rfl rfl rfl (decide_eq_false c44) rfl rfl ?_
              refine rwpL_op rfl ?_
              refine ok_pick_false rfl rfl rfl rfl (decide_eq_false c44) rfl ?_
              refine rwpL_op rfl ?_
              refine ok_move rfl rfl rfl rfl ?_
              refine gd_tf rfl rfl rfl (rfl) rfl rfl ?_
              refine gd_tf rfl rfl rfl (rfl) rfl rfl ?_
              refine gd_tf rfl rfl rfl (rfl) rfl rfl ?_
              refine gd_tf rfl rfl rfl (rfl) rfl rfl ?_
              refine gd_tf rfl rfl rfl (rfl) rfl rfl ?_
              refine rwpL_op rfl ?_
              refine ok_pick_false rfl rfl rfl rfl (rfl) rfl ?_
              refine rwpL_op rfl ?_
              refine ok_assign rfl rfl rfl rfl ?_
              refine rwpL_nil ?_
              (repeat (first | refine thenQ_exit ?_ | refine thenQ_ret ?_ | refine exQ_hit ?_ | refine exQ_other rfl ?_ | refine exQ_ret ?_ | refine exQ_normal ?_ | refine blockQ_ret ?_ | refine blockQ_normal ?_ | refine blockQ_exit ?_ | refine blockQ_other rfl ?_ | refine noGoto_ret ?_ | refine noGoto_exit ?_ | refine noGoto_normal ?_))
              have e3 := Option.some.inj h3
              subst e3
              exact le_mk ⟨⟨_, rfl, AV.sub_refl _⟩, ⟨_, rfl, AV.sub_refl _⟩, ⟨_, rfl, AV.sub_refl _⟩, ⟨_, rfl, AV.sub_refl _⟩, ⟨_, rfl, AV.sub_refl _⟩, ⟨_, rfl, AV.sub_refl _⟩, trivial⟩ trivial
      · replace h1 := if_f c42 h1
        refine awp_exit ?_
        (repeat (first | refine thenQ_exit ?_ | refine thenQ_ret ?_ | refine exQ_hit ?_ | refine exQ_other rfl ?_ | refine exQ_ret ?_ | refine exQ_normal ?_ | refine blockQ_ret ?_ | refine blockQ_normal ?_ | refine blockQ_exit ?_ | refine blockQ_other rfl ?_ | refine noGoto_ret ?_ | refine noGoto_exit ?_ | refine noGoto_normal ?_))
        have e1 := Option.some.inj h1
        subst e1
        exact le_mk ⟨⟨_, rfl, AV.sub_refl _⟩, ⟨_, rfl, AV.sub_refl _⟩, trivial⟩ trivial

def ref05_Any_l1 (n : Nat) (patterns_0 : List Bytes) (s_1 : Bytes) : Nat → Int → Option (Unit ⊕ Bool)
  | 0, _ => none
  | m + 1, i8 =>
  if i8 < (patterns_0.length : Int) then
    ck ((0 : Int) ≤ i8 ∧ i8 < (patterns_0.length : Int)) <|
    (ref05_Match n (lat patterns_0 i8) s_1).bind fun r11 =>
    if r11 = true then
      some (.inr true)
    else
      ck (inR (i8 + 1)) <|
      ref05_Any_l1 n patterns_0 s_1 m (i8 + 1)
  else
    some (.inl ())

def ref05_Any (n : Nat) (patterns_0 : List Bytes) (s_1 : Bytes) : Option Bool :=
  jn (ref05_Any_l1 n patterns_0 s_1 n 0) fun q16 =>
  some false

set_option maxHeartbeats 4000000 in
theorem ref05_Any_ok (n : Nat) (patterns_0 : List Bytes) (s_1 : Bytes) (r : Bool) (h0 : ref05_Any n patterns_0 s_1 = some r) : PCalls Try.prog 16 [eL eS patterns_0, eS s_1] (· = .p (eB r)) := by
  unfold ref05_Any at h0
  refine pbody good Try.func16 rfl rfl rfl fun w0 => ?_
  refine awp_seq ?_
  refine awp_reg ?_
  refine rwpL_op rfl ?_
  refine ok_assign rfl rfl rfl rfl ?_
  refine rwpL_nil ?_
  refine awp_seq ?_
  refine awp_seq ?_
  refine awp_reg ?_
  refine rwpL_op rfl ?_
  refine ok_assign rfl rfl rfl rfl ?_
  refine rwpL_nil ?_
  refine awp_block ?_
  obtain ⟨o17, h1, hL0, hR0⟩ := jn_cut h0
  refine awp_cutE 0 (fun s' => ∃ v18 : Unit, o17 = .inl v18 ∧ s'.le ⟨[], []⟩) ?_ ?_
  · rintro s' ⟨v18, hv, hle⟩
    have h0 := hL0 _ hv
    (repeat (first | refine thenQ_exit ?_ | refine thenQ_ret ?_ | refine exQ_hit ?_ | refine exQ_other rfl ?_ | refine exQ_ret ?_ | refine exQ_normal ?_ | refine blockQ_ret ?_ | refine blockQ_normal ?_ | refine blockQ_exit ?_ | refine blockQ_other rfl ?_ | refine noGoto_ret ?_ | refine noGoto_exit ?_ | refine noGoto_normal ?_))
    refine awp_weaken hle ?_
    (repeat (first | refine thenQ_exit ?_ | refine thenQ_ret ?_ | refine exQ_hit ?_ | refine exQ_other rfl ?_ | refine exQ_ret ?_ | refine exQ_normal ?_ | refine blockQ_ret ?_ | refine blockQ_normal ?_ | refine blockQ_exit ?_ | refine blockQ_other rfl ?_ | refine noGoto_ret ?_ | refine noGoto_exit ?_ | refine noGoto_normal ?_))
    refine awp_seq ?_
    refine awp_reg ?_
    refine rwpL_op rfl ?_
    refine ok_assign rfl rfl rfl rfl ?_
    refine rwpL_nil ?_
    refine awp_ret ?_
    (repeat (first | refine thenQ_exit ?_ | refine thenQ_ret ?_ | refine exQ_hit ?_ | refine exQ_other rfl ?_ | refine exQ_ret ?_ | refine exQ_normal ?_ | refine blockQ_ret ?_ | refine blockQ_normal ?_ | refine blockQ_exit ?_ | refine blockQ_other rfl ?_ | refine noGoto_ret ?_ | refine noGoto_exit ?_ | refine noGoto_normal ?_))
    have e0 := Option.some.inj h0
    subst e0
    refine ret_mk rfl ?_
    exact AV.sub_refl _
  · skip
    refine awp_loopF (fun q19 => ⟨[(0, .p (eL eS patterns_0)), (1, .p (eS s_1)), (5, .p (eI q19))], []⟩) (fun m (q19 : Int) => ref05_Any_l1 n patterns_0 s_1 m q19) (fun _ => rfl) 0 h1 (le_mk ⟨⟨_, rfl, AV.sub_refl _⟩, ⟨_, rfl, AV.sub_refl _⟩, ⟨_, rfl, AV.sub_refl _⟩, trivial⟩ trivial) ?_
    rintro m i8 h1
    replace h1 : ref05_Any_l1 n patterns_0 s_1 (m + 1) i8 = some o17 := h1
    rw [ref05_Any_l1] at h1
    refine awp_seq ?_
    refine awp_seq ?_
    refine awp_reg ?_
    refine rwpL_op rfl ?_
    refine ok_move rfl rfl rfl rfl ?_
    refine rwpL_op rfl ?_
    refine ok_move rfl rfl rfl rfl ?_
    refine rwpL_op rfl ?_
    refine op_lenL (f := eS) (l := patterns_0) rfl rfl rfl rfl rfl rfl rfl ?_
    refine rwpL_op rfl ?_
    refine ok_cmp rfl rfl rfl rfl rfl rfl ?_
    refine rwpL_nil ?_
    refine wp_ifD rfl (fun c9 => ?_) (fun c9 => ?_)
    · replace h1 := if_t c9 h1
      refine awp_skip ?_
      refine awp_seq ?_
      refine awp_block ?_
      refine awp_seq ?_
      refine awp_reg ?_
      refine rwpL_op rfl ?_
      refine ok_move rfl rfl rfl rfl ?_
      refine rwpL_op rfl ?_
      refine ok_move rfl rfl rfl rfl ?_
      obtain ⟨h10, h1⟩ := ck_cut h1
      refine rwpL_op rfl ?_
      refine op_at (f := eS) (l := patterns_0) (fun x => [eS x]) rfl rfl rfl rfl rfl rfl rfl rfl rfl h10 (fun _ => rfl) (fun _ => rfl) ?_
      refine rwpL_op rfl ?_
      refine ok_loadR1 rfl rfl rfl rfl rfl rfl rfl ?_
      refine rwpL_op rfl ?_
      refine ok_move rfl rfl rfl rfl ?_
      obtain ⟨r11, e12, h1⟩ := bd_cut h1
      refine rwpL_op rfl ?_
      refine ok_callP (ref05_Match_ok _ (lat patterns_0 i8) s_1 _ e12) rfl rfl rfl rfl ⟨AV.sub_refl _, AV.sub_refl _, trivial⟩ Try.call14 rfl ?_
      refine rwpL_nil ?_
      refine wp_if rfl (fun c13 => ?_) (fun c13 => ?_)
      · replace h1 := if_t c13 h1
        refine awp_seq ?_
        refine awp_reg ?_
        refine rwpL_op rfl ?_
        refine ok_assign rfl rfl rfl rfl ?_
        refine rwpL_nil ?_
        refine awp_ret ?_
        (repeat (first | refine thenQ_exit ?_ | refine thenQ_ret ?_ | refine exQ_hit ?_ | refine exQ_other rfl ?_ | refine exQ_ret ?_ | refine exQ_normal ?_ | refine blockQ_ret ?_ | refine blockQ_normal ?_ | refine blockQ_exit ?_ | refine blockQ_other rfl ?_ | refine noGoto_ret ?_ | refine noGoto_exit ?_ | refine noGoto_normal ?_))
        have e1 := Option.some.inj h1
        have e0 := hR0 _ e1.symm
        subst e0
        refine ret_mk rfl ?_
        exact AV.sub_refl _
      · replace h1 := if_bf c13 h1
        refine awp_skip ?_
        (repeat (first | refine thenQ_exit ?_ | refine thenQ_ret ?_ | refine exQ_hit ?_ | refine exQ_other rfl ?_ | refine exQ_ret ?_ | refine exQ_normal ?_ | refine blockQ_ret ?_ | refine blockQ_normal ?_ | refine blockQ_exit ?_ | refine blockQ_other rfl ?_ | refine noGoto_ret ?_ | refine noGoto_exit ?_ | refine noGoto_normal ?_))
        refine awp_reg ?_
        refine rwpL_op rfl ?_
        refine ok_move rfl rfl rfl rfl ?_
        obtain ⟨h14, h1⟩ := ck_cut h1
        refine rwpL_op rfl ?_
        refine ok_ar rfl rfl rfl rfl rfl rfl h14 ?_
        refine rwpL_op rfl ?_
        refine ok_assign rfl rfl rfl rfl ?_
        refine rwpL_nil ?_
        (repeat (first | refine thenQ_exit ?_ | refine thenQ_ret ?_ | refine exQ_hit ?_ | refine exQ_other rfl ?_ | refine exQ_ret ?_ | refine exQ_normal ?_ | refine blockQ_ret ?_ | refine blockQ_normal ?_ | refine blockQ_exit ?_ | refine blockQ_other rfl ?_ | refine noGoto_ret ?_ | refine noGoto_exit ?_ | refine noGoto_normal ?_))
        exact ⟨(i8 + 1), h1, le_mk ⟨⟨_, rfl, AV.sub_refl _⟩, ⟨_, rfl, AV.sub_refl _⟩, ⟨_, rfl, AV.sub_refl _⟩, trivial⟩ trivial⟩
    · replace h1 := if_f c9 h1
      refine awp_exit ?_
      (repeat (first | refine thenQ_exit ?_ | refine thenQ_ret ?_ | refine exQ_hit ?_ | refine exQ_other rfl ?_ | refine exQ_ret ?_ | refine exQ_normal ?_ | refine blockQ_ret ?_ | refine blockQ_normal ?_ | refine blockQ_exit ?_ | refine blockQ_other rfl ?_ | refine noGoto_ret ?_ | refine noGoto_exit ?_ | refine noGoto_normal ?_))
      have e1 := Option.some.inj h1
      exact ⟨_, e1.symm, le_mk trivial trivial⟩

def glob_Any_l1 (patterns_0 : List Bytes) (s_1 : Bytes) : Nat → Int → Option (Unit ⊕ Bool)
  | 0, _ => none
  | m + 1, t7 =>
  if t7 < (patterns_0.length : Int) then
    ck ((0 : Int) ≤ t7 ∧ t7 < (patterns_0.length : Int)) <|
    ck ((lat patterns_0 t7).length ≤ 65536 ∧ s_1.length ≤ 32768) <|
    if (matchL (lat patterns_0 t7) s_1) = true then
      some (.inr true)
    else
      ck (inR (t7 + 1)) <|
      glob_Any_l1 patterns_0 s_1 m (t7 + 1)
  else
    some (.inl ())

def glob_Any (n : Nat) (patterns_0 : List Bytes) (s_1 : Bytes) : Option Bool :=
  jn (glob_Any_l1 patterns_0 s_1 n 0) fun q14 =>
  some false

set_option maxHeartbeats 4000000 in
theorem glob_Any_ok (n : Nat) (patterns_0 : List Bytes) (s_1 : Bytes) (r : Bool) (h0 : glob_Any n patterns_0 s_1 = some r) : PCalls Try.prog 15 [eL eS patterns_0, eS s_1] (· = .p (eB r)) := by
  unfold glob_Any at h0
  refine pbody good Try.func15 rfl rfl rfl fun w0 => ?_
  refine awp_seq ?_
  refine awp_reg ?_
  refine rwpL_op rfl ?_
  refine ok_assign rfl rfl rfl rfl ?_
  refine rwpL_nil ?_
  refine awp_seq ?_
  refine awp_seq ?_
  refine awp_reg ?_
  refine rwpL_op rfl ?_
  refine ok_move rfl rfl rfl rfl ?_
  refine rwpL_op rfl ?_
  refine op_lenL (f := eS) (l := patterns_0) rfl rfl rfl rfl rfl rfl rfl ?_
  refine rwpL_op rfl ?_
  refine ok_move rfl rfl rfl rfl ?_
  refine rwpL_nil ?_
  refine awp_block ?_
  obtain ⟨o15, h1, hL0, hR0⟩ := jn_cut h0
  refine awp_cutE 0 (fun s' => ∃ v16 : Unit, o15 = .inl v16 ∧ s'.le ⟨[], []⟩) ?_ ?_
  · rintro s' ⟨v16, hv, hle⟩
    have h0 := hL0 _ hv
    (repeat (first | refine thenQ_exit ?_ | refine thenQ_ret ?_ | refine exQ_hit ?_ | refine exQ_other rfl ?_ | refine exQ_ret ?_ | refine exQ_normal ?_ | refine blockQ_ret ?_ | refine blockQ_normal ?_ | refine blockQ_exit ?_ | refine blockQ_other rfl ?_ | refine noGoto_ret ?_ | refine noGoto_exit ?_ | refine noGoto_normal ?_))
    refine awp_weaken hle ?_
    (repeat (first | refine thenQ_exit ?_ | refine thenQ_ret ?_ | refine exQ_hit ?_ | refine exQ_other rfl ?_ | refine exQ_ret ?_ | refine exQ_normal ?_ | refine blockQ_ret ?_ | refine blockQ_normal ?_ | refine blockQ_exit ?_ | refine blockQ_other rfl ?_ | refine noGoto_ret ?_ | refine noGoto_exit ?_ | refine noGoto_normal ?_))
    refine awp_seq ?_
    refine awp_reg ?_
    refine rwpL_op rfl ?_
    refine ok_assign rfl rfl rfl rfl ?_
    refine rwpL_nil ?_
    refine awp_ret ?_
    (repeat (first | refine thenQ_exit ?_ | refine thenQ_ret ?_ | refine exQ_hit ?_ | refine exQ_other rfl ?_ | refine exQ_ret ?_ | refine exQ_normal ?_ | refine blockQ_ret ?_ | refine blockQ_normal ?_ | refine blockQ_exit ?_ | refine blockQ_other rfl ?_ | refine noGoto_ret ?_ | refine noGoto_exit ?_ | refine noGoto_normal ?_))
    have e0 := Option.some.inj h0
    subst e0
    refine ret_mk rfl ?_
    exact AV.sub_refl _
  · skip
    refine awp_loopF (fun q17 => ⟨[(1, .p (eS s_1)), (7, .p (eL eS patterns_0)), (8, .p (eI (patterns_0.length : Int))), (9, .p (eI q17))], []⟩) (fun m (q17 : Int) => glob_Any_l1 patterns_0 s_1 m q17) (fun _ => rfl) 0 h1 (le_mk ⟨⟨_, rfl, AV.sub_refl _⟩, ⟨_, rfl, AV.sub_refl _⟩, ⟨_, rfl, AV.sub_refl _⟩, ⟨_, rfl, AV.sub_refl _⟩, trivial⟩ trivial) ?_
    rintro m t7 h1
    replace h1 : glob_Any_l1 patterns_0 s_1 (m + 1) t7 = some o15 := h1
    rw [glob_Any_l1] at h1
    refine awp_seq ?_
    refine awp_reg ?_
    refine rwpL_op rfl ?_
    refine ok_cmp rfl rfl rfl rfl rfl rfl ?_
    refine rwpL_nil ?_
    refine awp_seq ?_
    refine wp_ifD rfl (fun c8 => ?_) (fun c8 => ?_)
    · replace h1 := if_t c8 h1
      refine awp_skip ?_
      refine awp_seq ?_
      refine awp_block ?_
      refine awp_seq ?_
      refine awp_reg ?_
      obtain ⟨h9, h1⟩ := ck_cut h1
      refine rwpL_op rfl ?_
      refine op_at (f := eS) (l := patterns_0) (fun x => [eS x]) rfl rfl rfl rfl rfl rfl rfl rfl rfl h9 (fun _ => rfl) (fun _ => rfl) ?_
      refine rwpL_op rfl ?_
      refine ok_loadR1 rfl rfl rfl rfl rfl rfl rfl ?_
      refine rwpL_op rfl ?_
      refine ok_assign rfl rfl rfl rfl ?_
      refine rwpL_nil ?_
      refine awp_seq ?_
      refine awp_reg ?_
      refine rwpL_op rfl ?_
      refine ok_move rfl rfl rfl rfl ?_
      refine rwpL_op rfl ?_
      refine ok_move rfl rfl rfl rfl ?_
      obtain ⟨h10, h1⟩ := ck_cut h1
      refine rwpL_op rfl ?_
      refine ok_callP (match_ok (lat patterns_0 t7) s_1 h10.1 h10.2) rfl rfl rfl rfl ⟨AV.sub_refl _, AV.sub_refl _, trivial⟩ Try.call13 rfl ?_
      refine rwpL_nil ?_
      refine wp_if rfl (fun c11 => ?_) (fun c11 => ?_)
      · replace h1 := if_t c11 h1
        refine awp_seq ?_
        refine awp_reg ?_
        refine rwpL_op rfl ?_
        refine ok_assign rfl rfl rfl rfl ?_
        refine rwpL_nil ?_
        refine awp_ret ?_
        (repeat (first | refine thenQ_exit ?_ | refine thenQ_ret ?_ | refine exQ_hit ?_ | refine exQ_other rfl ?_ | refine exQ_ret ?_ | refine exQ_normal ?_ | refine blockQ_ret ?_ | refine blockQ_normal ?_ | refine blockQ_exit ?_ | refine blockQ_other rfl ?_ | refine noGoto_ret ?_ | refine noGoto_exit ?_ | refine noGoto_normal ?_))
        have e1 := Option.some.inj h1
        have e0 := hR0 _ e1.symm
        subst e0
        refine ret_mk rfl ?_
        exact AV.sub_refl _
      · replace h1 := if_bf c11 h1
        refine awp_skip ?_
        (repeat (first | refine thenQ_exit ?_ | refine thenQ_ret ?_ | refine exQ_hit ?_ | refine exQ_other rfl ?_ | refine exQ_ret ?_ | refine exQ_normal ?_ | refine blockQ_ret ?_ | refine blockQ_normal ?_ | refine blockQ_exit ?_ | refine blockQ_other rfl ?_ | refine noGoto_ret ?_ | refine noGoto_exit ?_ | refine noGoto_normal ?_))
        refine awp_reg ?_
        obtain ⟨h12, h1⟩ := ck_cut h1
        refine rwpL_op rfl ?_
        refine ok_ar rfl rfl rfl rfl rfl rfl h12 ?_
        refine rwpL_op rfl ?_
        refine ok_move rfl rfl rfl rfl ?_
        refine rwpL_nil ?_
        (repeat (first | refine thenQ_exit ?_ | refine thenQ_ret ?_ | refine exQ_hit ?_ | refine exQ_other rfl ?_ | refine exQ_ret ?_ | refine exQ_normal ?_ | refine blockQ_ret ?_ | refine blockQ_normal ?_ | refine blockQ_exit ?_ | refine blockQ_other rfl ?_ | refine noGoto_ret ?_ | refine noGoto_exit ?_ | refine noGoto_normal ?_))
        exact ⟨(t7 + 1), h1, le_mk ⟨⟨_, rfl, AV.sub_refl _⟩, ⟨_, rfl, AV.sub_refl _⟩, ⟨_, rfl, AV.sub_refl _⟩, ⟨_, rfl, AV.sub_refl _⟩, trivial⟩ trivial⟩
    · replace h1 := if_f c8 h1
      refine awp_exit ?_
      (repeat (first | refine thenQ_exit ?_ | refine thenQ_ret ?_ | refine exQ_hit ?_ | refine exQ_other rfl ?_ | refine exQ_ret ?_ | refine exQ_normal ?_ | refine blockQ_ret ?_ | refine blockQ_normal ?_ | refine blockQ_exit ?_ | refine blockQ_other rfl ?_ | refine noGoto_ret ?_ | refine noGoto_exit ?_ | refine noGoto_normal ?_))
      have e1 := Option.some.inj h1
      exact ⟨_, e1.symm, le_mk trivial trivial⟩

def law05_splits_l1 (r_law05_splits : Bytes → Bytes → Option Bool) (s_1 : Bytes) (rest23 : Bytes) (all24 : Bool) : Nat → Int → Option (Unit ⊕ Bool)
  | 0, _ => none
  | m + 1, k37 =>
  if k37 ≤ (s_1.length : Int) then
    ck ((0 : Int) ≤ k37 ∧ k37 ≤ (s_1.length : Int) ∧ (s_1.length : Int) ≤ (s_1.length : Int)) <|
    (r_law05_splits rest23 (sub s_1 k37 (s_1.length : Int))).bind fun r40 =>
    if r40 = true then
      some (.inr true)
    else
      (
          if k37 < (s_1.length : Int) then
            ck ((0 : Int) ≤ k37 ∧ k37 < (s_1.length : Int)) <|
            if byt s_1 k37 = 46 then
              some (!all24)
            else
              some false
          else
            some false
        : Option Bool).bind fun t46 =>
      if t46 = true then
        some (.inr false)
      else
        ck (inR (k37 + 1)) <|
        law05_splits_l1 r_law05_splits s_1 rest23 all24 m (k37 + 1)
  else
    some (.inl ())

def law05_splits : Nat → Bytes → Bytes → Option Bool
  | 0, _, _ => none
  | n + 1, pattern_0, s_1 =>
  if pattern_0 = ([] : Bytes) then
    some (decide (s_1 = ([] : Bytes)))
  else
    ck ((0 : Int) ≤ 0 ∧ 0 < (pattern_0.length : Int)) <|
    if byt pattern_0 0 = 42 then
      ck ((0 : Int) ≤ 1 ∧ 1 ≤ (pattern_0.length : Int) ∧ (pattern_0.length : Int) ≤ (pattern_0.length : Int)) <|
      (
          (
              if sub pattern_0 1 (pattern_0.length : Int) = ([] : Bytes) then
                some false
              else
                ck ((0 : Int) ≤ 0 ∧ 0 < ((sub pattern_0 1 (pattern_0.length : Int)).length : Int)) <|
                some (decide (byt (sub pattern_0 1 (pattern_0.length : Int)) 0 = 42))
            : Option Bool).bind fun t20 =>
          if t20 = true then
            ck ((0 : Int) ≤ 1 ∧ 1 ≤ ((sub pattern_0 1 (pattern_0.length : Int)).length : Int) ∧ ((sub pattern_0 1 (pattern_0.length : Int)).length : Int) ≤ ((sub pattern_0 1 (pattern_0.length : Int)).length : Int)) <|
            some (sub (sub pattern_0 1 (pattern_0.length : Int)) 1 ((sub pattern_0 1 (pattern_0.length : Int)).length : Int), true)
          else
            some (sub pattern_0 1 (pattern_0.length : Int), false)
        : Option (Bytes × Bool)).bind fun q50 =>
      jn (law05_splits_l1 (law05_splits n) s_1 q50.1 q50.2 n 0) fun q52 =>
      some false
    else
      (
          if s_1 = ([] : Bytes) then
            some false
          else
            if byt s_1 0 = byt pattern_0 0 then
              ck ((0 : Int) ≤ 0 ∧ 0 < (s_1.length : Int)) <|
              ck ((0 : Int) ≤ 0 ∧ 0 < (pattern_0.length : Int)) <|
              ck ((0 : Int) ≤ 1 ∧ 1 ≤ (pattern_0.length : Int) ∧ (pattern_0.length : Int) ≤ (pattern_0.length : Int)) <|
              ck ((0 : Int) ≤ 1 ∧ 1 ≤ (s_1.length : Int) ∧ (s_1.length : Int) ≤ (s_1.length : Int)) <|
              ((law05_splits n) (sub pattern_0 1 (pattern_0.length : Int)) (sub s_1 1 (s_1.length : Int))).bind fun r12 =>
              some r12
            else
              ck ((0 : Int) ≤ 0 ∧ 0 < (s_1.length : Int)) <|
              ck ((0 : Int) ≤ 0 ∧ 0 < (pattern_0.length : Int)) <|
              some false
        : Option Bool).bind fun t16 =>
      some t16

set_option maxHeartbeats 4000000 in
theorem law05_splits_ok (n : Nat) : ∀ (pattern_0 : Bytes) (s_1 : Bytes) (r : Bool) (h0 : law05_splits n pattern_0 s_1 = some r), PCalls Try.prog 18 [eS pattern_0, eS s_1] (· = .p (eB r)) := by
  induction n with
  | zero => intro pattern_0 s_1 r h0; cases h0
  | succ n ih_law05_splits_ok =>
  intro pattern_0 s_1 r h0
  rw [law05_splits] at h0
  refine pbody good Try.func18 rfl rfl rfl fun w0 => ?_
  refine awp_seq ?_
  refine awp_reg ?_
  refine rwpL_op rfl ?_
  refine ok_assign rfl rfl rfl rfl ?_
  refine rwpL_nil ?_
  refine awp_seq ?_
  refine awp_seq ?_
  refine awp_reg ?_
  refine rwpL_op rfl ?_
  refine ok_move rfl rfl rfl rfl ?_
  refine rwpL_op rfl ?_
  refine ok_cmpS rfl rfl rfl rfl rfl rfl ?_
  refine rwpL_nil ?_
  refine wp_ifD rfl (fun c1 => ?_) (fun c1 => ?_)
  · replace h0 := if_t c1 h0
    refine awp_seq ?_
    refine awp_reg ?_
    refine rwpL_op rfl ?_
    refine ok_move rfl rfl rfl rfl ?_
    refine rwpL_op rfl ?_
    refine ok_cmpS rfl rfl rfl rfl rfl rfl ?_
    refine rwpL_op rfl ?_
    refine ok_assign rfl rfl rfl rfl ?_
    refine rwpL_nil ?_
    refine awp_ret ?_
    (repeat (first | refine thenQ_exit ?_ | refine thenQ_ret ?_ | refine exQ_hit ?_ | refine exQ_other rfl ?_ | refine exQ_ret ?_ | refine exQ_normal ?_ | refine blockQ_ret ?_ | refine blockQ_normal ?_ | refine blockQ_exit ?_ | refine blockQ_other rfl ?_ | refine noGoto_ret ?_ | refine noGoto_exit ?_ | refine noGoto_normal ?_))
    have e0 := Option.some.inj h0
    subst e0
    refine ret_mk rfl ?_
    exact AV.sub_refl _
  · replace h0 := if_f c1 h0
    refine awp_skip ?_
    refine awp_seq ?_
    refine awp_seq ?_
    refine awp_reg ?_
    refine rwpL_op rfl ?_
    refine ok_move rfl rfl rfl rfl ?_
    obtain ⟨h2, h0⟩ := ck_cut h0
    refine rwpL_op rfl ?_
    refine op_indexS rfl rfl rfl rfl rfl rfl rfl h2 ?_
    refine rwpL_op rfl ?_
    refine ok_cmp rfl rfl rfl rfl rfl rfl ?_
    refine rwpL_nil ?_
    refine wp_ifN rfl (fun c3 => ?_) (fun c3 => ?_)
    · replace h0 := if_f c3 h0
      refine awp_seq ?_
      obtain ⟨o64, h1, h0⟩ := bd_cut h0
      refine awp_cutN (fun s' => s'.le ⟨[(4, .p (eB o64))], []⟩) ?_ ?_
      · intro s' hle
        (repeat (first | refine thenQ_exit ?_ | refine thenQ_ret ?_ | refine exQ_hit ?_ | refine exQ_other rfl ?_ | refine exQ_ret ?_ | refine exQ_normal ?_ | refine blockQ_ret ?_ | refine blockQ_normal ?_ | refine blockQ_exit ?_ | refine blockQ_other rfl ?_ | refine noGoto_ret ?_ | refine noGoto_exit ?_ | refine noGoto_normal ?_))
        refine awp_weaken hle ?_
        refine awp_ret ?_
        (repeat (first | refine thenQ_exit ?_ | refine thenQ_ret ?_ | refine exQ_hit ?_ | refine exQ_other rfl ?_ | refine exQ_ret ?_ | refine exQ_normal ?_ | refine blockQ_ret ?_ | refine blockQ_normal ?_ | refine blockQ_exit ?_ | refine blockQ_other rfl ?_ | refine noGoto_ret ?_ | refine noGoto_exit ?_ | refine noGoto_normal ?_))
        have e0 := Option.some.inj h0
        subst e0
        refine ret_mk rfl ?_
        exact AV.sub_refl _
      · skip
        refine awp_byD (p := s_1 = ([] : Bytes)) (fun c4 => ?_) (fun c4 => ?_)
        · replace h1 := if_t c4 h1
          refine awp_drawQ [(0, .p (eS pattern_0)), (1, .p (eS s_1))] rfl ⟨rfl, rfl, trivial⟩ rfl ?_
          refine dq_cons (.p (eS s_1)) [(1, .p (eS s_1))] ⟨.inl rfl, trivial⟩ (fun sl hsl K hK => one_op rfl (ok_move rfl rfl rfl (hsl _ _ rfl) hK)) rfl rfl rfl ?_
          refine dq_cons (.p (eB (!decide (s_1 = ([] : Bytes))))) [(15, .p (eS s_1))] ⟨.inr ⟨0, rfl, rfl⟩, trivial⟩ (fun sl hsl K hK => one_op rfl (ok_cmpS rfl rfl rfl (hsl _ _ rfl) rfl rfl hK)) rfl rfl rfl ?_
          refine dq_cons (.p (eB (!decide (s_1 = ([] : Bytes))))) [(16, .p (eB (!decide (s_1 = ([] : Bytes)))))] ⟨.inr ⟨1, rfl, rfl⟩, trivial⟩ (fun sl hsl K hK => one_op rfl (ok_move rfl rfl rfl (hsl _ _ rfl) hK)) rfl rfl rfl ?_
          refine dq_cons (.p (.val Go.undef)) [(1, .p (eS s_1)), (17, .p (eB (!decide (s_1 = ([] : Bytes)))))] ⟨.inl rfl, .inr ⟨2, rfl, rfl⟩, trivial⟩ (fun sl hsl K hK => one_no rfl rfl (hsl _ _ rfl) (nd_false c4) rfl rfl hK) rfl rfl rfl ?_
          refine dq_cons (.p (.val Go.undef)) [(17, .p (eB (!decide (s_1 = ([] : Bytes))))), (18, .p (.val (.tuple #[])))] ⟨.inr ⟨2, rfl, rfl⟩, .inr ⟨3, rfl, rfl⟩, trivial⟩ (fun sl hsl K hK => one_no rfl rfl (hsl _ _ rfl) (nd_false c4) rfl rfl hK) rfl rfl rfl ?_
          refine dq_cons (.p (.val Go.undef)) [(0, .p (eS pattern_0)), (17, .p (eB (!decide (s_1 = ([] : Bytes)))))] ⟨.inl rfl, .inr ⟨2, rfl, rfl⟩, trivial⟩ (fun sl hsl K hK => one_no rfl rfl (hsl _ _ rfl) (nd_false c4) rfl rfl hK) rfl rfl rfl ?_
          refine dq_cons (.p (.val Go.undef)) [(17, .p (eB (!decide (s_1 = ([] : Bytes))))), (20, .p (.val (.tuple #[])))] ⟨.inr ⟨2, rfl, rfl⟩, .inr ⟨5, rfl, rfl⟩, trivial⟩ (fun sl hsl K hK => one_no rfl rfl (hsl _ _ rfl) (nd_false c4) rfl rfl hK) rfl rfl rfl ?_
          refine dq_cons (.p (.val Go.undef)) [(17, .p (eB (!decide (s_1 = ([] : Bytes))))), (19, .p (.val (.tuple #[]))), (21, .p (.val (.tuple #[])))] ⟨.inr ⟨2, rfl, rfl⟩, .inr ⟨4, rfl, rfl⟩, .inr ⟨6, rfl, rfl⟩, trivial⟩ (fun sl hsl K hK => one_no rfl rfl (hsl _ _ rfl) (nd_false c4) rfl rfl hK) rfl rfl rfl ?_
          refine dq_cons (.p (eB false)) [(17, .p (eB (!decide (s_1 = ([] : Bytes))))), (22, .p (.val (.tuple #[])))] ⟨.inr ⟨2, rfl, rfl⟩, .inr ⟨7, rfl, rfl⟩, trivial⟩ (fun sl hsl K hK => one_op rfl (ok_pick_false rfl rfl rfl (hsl _ _ rfl) (nd_false c4) rfl hK)) rfl rfl rfl ?_
          refine dq_cons (.p (eB false)) [(23, .p (eB false))] ⟨.inr ⟨8, rfl, rfl⟩, trivial⟩ (fun sl hsl K hK => one_op rfl (ok_move rfl rfl rfl (hsl _ _ rfl) hK)) rfl rfl rfl ?_
          refine dq_cons (.p (.val Go.undef)) [(0, .p (eS pattern_0)), (24, .p (eB false))] ⟨.inl rfl, .inr ⟨9, rfl, rfl⟩, trivial⟩ (fun sl hsl K hK => one_no rfl rfl (hsl _ _ rfl) (rfl) rfl rfl hK) rfl rfl rfl ?_
          refine dq_cons (.p (.val Go.undef)) [(24, .p (eB false)), (25, .p (.val (.tuple #[])))] ⟨.inr ⟨9, rfl, rfl⟩, .inr ⟨10, rfl, rfl⟩, trivial⟩ (fun sl hsl K hK => one_no rfl rfl (hsl _ _ rfl) (rfl) rfl rfl hK) rfl rfl rfl ?_
          refine dq_cons (.p (.val Go.undef)) [(1, .p (eS s_1)), (24, .p (eB false))] ⟨.inl rfl, .inr ⟨9, rfl, rfl⟩, trivial⟩ (fun sl hsl K hK => one_no rfl rfl (hsl _ _ rfl) (rfl) rfl rfl hK) rfl rfl rfl ?_
          refine dq_cons (.p (.val Go.undef)) [(24, .p (eB false)), (27, .p (.val (.tuple #[])))] ⟨.inr ⟨9, rfl, rfl⟩, .inr ⟨12, rfl, rfl⟩, trivial⟩ (fun sl hsl K hK => one_no rfl rfl (hsl _ _ rfl) (rfl) rfl rfl hK) rfl rfl rfl ?_
          refine dq_cons (.p (.val Go.undef)) [(24, .p (eB false)), (26, .p (.val (.tuple #[]))), (28, .p (.val (.tuple #[])))] ⟨.inr ⟨9, rfl, rfl⟩, .inr ⟨11, rfl, rfl⟩, .inr ⟨13, rfl, rfl⟩, trivial⟩ (fun sl hsl K hK => one_no rfl rfl (hsl _ _ rfl) (rfl) rfl rfl hK) rfl rfl rfl ?_
          refine dq_cons (.p (eB false)) [(24, .p (eB false)), (29, .p (.val (.tuple #[])))] ⟨.inr ⟨9, rfl, rfl⟩, .inr ⟨14, rfl, rfl⟩, trivial⟩ (fun sl hsl K hK => one_op rfl (ok_pick_false rfl rfl rfl (hsl _ _ rfl) (rfl) rfl hK)) rfl rfl rfl ?_
          refine dq_cons (.p (eB false)) [(30, .p (eB false))] ⟨.inr ⟨15, rfl, rfl⟩, trivial⟩ (fun sl hsl K hK => one_op rfl (ok_assign rfl rfl rfl (hsl _ _ rfl) hK)) rfl rfl rfl ?_
          refine dq_nil ?_
          (repeat (first | refine thenQ_exit ?_ | refine thenQ_ret ?_ | refine exQ_hit ?_ | refine exQ_other rfl ?_ | refine exQ_ret ?_ | refine exQ_normal ?_ | refine blockQ_ret ?_ | refine blockQ_normal ?_ | refine blockQ_exit ?_ | refine blockQ_other rfl ?_ | refine noGoto_ret ?_ | refine noGoto_exit ?_ | refine noGoto_normal ?_))
          have e1 := Option.some.inj h1
          subst e1
          exact le_mk ⟨⟨_, rfl, AV.sub_refl _⟩, trivial⟩ trivial
        · replace h1 := if_f c4 h1
          refine awp_byD (p := byt s_1 0 = byt pattern_0 0) (fun c7 => ?_) (fun c7 => ?_)
          · replace h1 := if_t c7 h1
            refine awp_drawQ [(0, .p (eS pattern_0)), (1, .p (eS s_1))] rfl ⟨rfl, rfl, trivial⟩ rfl ?_
            refine dq_cons (.p (eS s_1)) [(1, .p (eS s_1))] ⟨.inl rfl, trivial⟩ (fun sl hsl K hK => one_op rfl (ok_move rfl rfl rfl (hsl _ _ rfl) hK)) rfl rfl rfl ?_
            refine dq_cons (.p (eB (!decide (s_1 = ([] : Bytes))))) [(15, .p (eS s_1))] ⟨.inr ⟨0, rfl, rfl⟩, trivial⟩ (fun sl hsl K hK => one_op rfl (ok_cmpS rfl rfl rfl (hsl _ _ rfl) rfl rfl hK)) rfl rfl rfl ?_
            refine dq_cons (.p (eB (!decide (s_1 = ([] : Bytes))))) [(16, .p (eB (!decide (s_1 = ([] : Bytes)))))] ⟨.inr ⟨1, rfl, rfl⟩, trivial⟩ (fun sl hsl K hK => one_op rfl (ok_move rfl rfl rfl (hsl _ _ rfl) hK)) rfl rfl rfl ?_
            refine dq_cons (.p (eS s_1)) [(1, .p (eS s_1)), (17, .p (eB (!decide (s_1 = ([] : Bytes)))))] ⟨.inl rfl, .inr ⟨2, rfl, rfl⟩, trivial⟩ (fun sl hsl K hK => one_yes (ok_move rfl rfl rfl (hsl _ _ rfl) hK) rfl rfl (hsl _ _ rfl) (nd_true c4)) rfl rfl rfl ?_
            obtain ⟨h8, h1⟩ := ck_cut h1
            refine dq_cons (.p (eK .u8 (byt s_1 0))) [(17, .p (eB (!decide (s_1 = ([] : Bytes))))), (18, .p (eS s_1))] ⟨.inr ⟨2, rfl, rfl⟩, .inr ⟨3, rfl, rfl⟩, trivial⟩ (fun sl hsl K hK => one_yes (op_indexS rfl rfl rfl rfl rfl (hsl _ _ rfl) rfl h8 hK) rfl rfl (hsl _ _ rfl) (nd_true c4)) rfl rfl rfl ?_
            refine dq_cons (.p (eS pattern_0)) [(0, .p (eS pattern_0)), (17, .p (eB (!decide (s_1 = ([] : Bytes)))))] ⟨.inl rfl, .inr ⟨2, rfl, rfl⟩, trivial⟩ (fun sl hsl K hK => one_yes (ok_move rfl rfl rfl (hsl _ _ rfl) hK) rfl rfl (hsl _ _ rfl) (nd_true c4)) rfl rfl rfl ?_
            obtain ⟨h9, h1⟩ := ck_cut h1
            refine dq_cons (.p (eK .u8 (byt pattern_0 0))) [(17, .p (eB (!decide (s_1 = ([] : Bytes))))), (20, .p (eS pattern_0))] ⟨.inr ⟨2, rfl, rfl⟩, .inr ⟨5, rfl, rfl⟩, trivial⟩ (fun sl hsl K hK => one_yes (op_indexS rfl rfl rfl rfl rfl (hsl _ _ rfl) rfl h9 hK) rfl rfl (hsl _ _ rfl) (nd_true c4)) rfl rfl rfl ?_
            refine dq_cons (.p (eB (decide (byt s_1 0 = byt pattern_0 0)))) [(17, .p (eB (!decide (s_1 = ([] : Bytes))))), (19, .p (eK .u8 (byt s_1 0))), (21, .p (eK .u8 (byt pattern_0 0)))] ⟨.inr ⟨2, rfl, rfl⟩, .inr ⟨4, rfl, rfl⟩, .inr ⟨6, rfl, rfl⟩, trivial⟩ (fun sl hsl K hK => one_yes (ok_cmp rfl rfl rfl (hsl _ _ rfl) (hsl _ _ rfl) rfl hK) rfl rfl (hsl _ _ rfl) (nd_true c4)) rfl rfl rfl ?_
            refine dq_cons (.p (eB (decide (byt s_1 0 = byt pattern_0 0)))) [(17, .p (eB (!decide (s_1 = ([] : Bytes))))), (22, .p (eB (decide (byt s_1 0 = byt pattern_0 0))))] ⟨.inr ⟨2, rfl, rfl⟩, .inr ⟨7, rfl, rfl⟩, trivial⟩ (fun sl hsl K hK => one_op rfl (ok_pick_true rfl rfl rfl (hsl _ _ rfl) (nd_true c4) (hsl _ _ rfl) hK)) rfl rfl rfl ?_
            refine dq_cons (.p (eB (decide (byt s_1 0 = byt pattern_0 0)))) [(23, .p (eB (decide (byt s_1 0 = byt pattern_0 0))))] ⟨.inr ⟨8, rfl, rfl⟩, trivial⟩ (fun sl hsl K hK => one_op rfl (ok_move rfl rfl rfl (hsl _ _ rfl) hK)) rfl rfl rfl ?_
            refine dq_cons (.p (eS pattern_0)) [(0, .p (eS pattern_0)), (24, .p (eB (decide (byt s_1 0 = byt pattern_0 0))))] ⟨.inl rfl, .inr ⟨9, rfl, rfl⟩, trivial⟩ (fun sl hsl K hK => one_yes (ok_move rfl rfl rfl (hsl _ _ rfl) hK) rfl rfl (hsl _ _ rfl) (decide_eq_true c7)) rfl rfl rfl ?_
            obtain ⟨h10, h1⟩ := ck_cut h1
            refine dq_cons (.p (eS (sub pattern_0 1 (pattern_0.length : Int)))) [(24, .p (eB (decide (byt s_1 0 = byt pattern_0 0)))), (25, .p (eS pattern_0))] ⟨.inr ⟨9, rfl, rfl⟩, .inr ⟨10, rfl, rfl⟩, trivial⟩ (fun sl hsl K hK => one_yes (op_sliceS (a := pattern_0) (l := 1) (h := (pattern_0.length : Int)) rfl rfl rfl rfl rfl (hsl _ _ rfl) rfl rfl h10 hK) rfl rfl (hsl _ _ rfl) (decide_eq_true c7)) rfl rfl rfl ?_
            refine dq_cons (.p (eS s_1)) [(1, .p (eS s_1)), (24, .p (eB (decide (byt s_1 0 = byt pattern_0 0))))] ⟨.inl rfl, .inr ⟨9, rfl, rfl⟩, trivial⟩ (fun sl hsl K hK => one_yes (ok_move rfl rfl rfl (hsl _ _ rfl) hK) rfl rfl (hsl _ _ rfl) (decide_eq_true c7)) rfl rfl rfl ?_
            obtain ⟨h11, h1⟩ := ck_cut h1
            refine dq_cons (.p (eS (sub s_1 1 (s_1.length : Int)))) [(24, .p (eB (decide (byt s_1 0 = byt pattern_0 0)))), (27, .p (eS s_1))] ⟨.inr ⟨9, rfl, rfl⟩, .inr ⟨12, rfl, rfl⟩, trivial⟩ (fun sl hsl K hK => one_yes (op_sliceS (a := s_1) (l := 1) (h := (s_1.length : Int)) rfl rfl rfl rfl rfl (hsl _ _ rfl) rfl rfl h11 hK) rfl rfl (hsl _ _ rfl) (decide_eq_true c7)) rfl rfl rfl ?_
            obtain ⟨r12, e13, h1⟩ := bd_cut h1
            refine dq_cons (.p (eB r12)) [(24, .p (eB (decide (byt s_1 0 = byt pattern_0 0)))), (26, .p (eS (sub pattern_0 1 (pattern_0.length : Int)))), (28, .p (eS (sub s_1 1 (s_1.length : Int))))] ⟨.inr ⟨9, rfl, rfl⟩, .inr ⟨11, rfl, rfl⟩, .inr ⟨13, rfl, rfl⟩, trivial⟩ (fun sl hsl K hK => one_yes (ok_callP (ih_law05_splits_ok (sub pattern_0 1 (pattern_0.length : Int)) (sub s_1 1 (s_1.length : Int)) _ e13) rfl rfl rfl (args_cons (hsl _ _ rfl) (args_cons (hsl _ _ rfl) args_nil)) ⟨AV.sub_refl _, AV.sub_refl _, trivial⟩ Try.call18 rfl hK) rfl rfl (hsl _ _ rfl) (decide_eq_true c7)) rfl rfl rfl ?_
            refine dq_cons (.p (eB r12)) [(24, .p (eB (decide (byt s_1 0 = byt pattern_0 0)))), (29, .p (eB r12))] ⟨.inr ⟨9, rfl, rfl⟩, .inr ⟨14, rfl, rfl⟩, trivial⟩ (fun sl hsl K hK => one_op rfl (ok_pick_true rfl rfl rfl (hsl _ _ rfl) (decide_eq_true c7) (hsl _ _ rfl) hK)) rfl rfl rfl ?_
            refine dq_cons (.p (eB r12)) [(30, .p (eB r12))] ⟨.inr ⟨15, rfl, rfl⟩, trivial⟩ (fun sl hsl K hK => one_op rfl (ok_assign rfl rfl rfl (hsl _ _ rfl) hK)) rfl rfl rfl ?_
            refine dq_nil ?_
            (repeat (first | refine thenQ_exit ?_ | refine thenQ_ret ?_ | refine exQ_hit ?_ | refine exQ_other rfl ?_ | refine exQ_ret ?_ | refine exQ_normal ?_ | refine blockQ_ret ?_ | refine blockQ_normal ?_ | refine blockQ_exit ?_ | refine blockQ_other rfl ?_ | refine noGoto_ret ?_ | refine noGoto_exit ?_ | refine noGoto_normal ?_))
            have e1 := Option.some.inj h1
            subst e1
            exact le_mk ⟨⟨_, rfl, AV.sub_refl _⟩, trivial⟩ trivial
          · replace h1 := if_f c7 h1
            refine awp_drawQ [(0, .p (eS pattern_0)), (1, .p (eS s_1))] rfl ⟨rfl, rfl, trivial⟩ rfl ?_
            refine dq_cons (.p (eS s_1)) [(1, .p (eS s_1))] ⟨.inl rfl, trivial⟩ (fun sl hsl K hK => one_op rfl (ok_move rfl rfl rfl (hsl _ _ rfl) hK)) rfl rfl rfl ?_
            refine dq_cons (.p (eB (!decide (s_1 = ([] : Bytes))))) [(15, .p (eS s_1))] ⟨.inr ⟨0, rfl, rfl⟩, trivial⟩ (fun sl hsl K hK => one_op rfl (ok_cmpS rfl rfl rfl (hsl _ _ rfl) rfl rfl hK)) rfl rfl rfl ?_
            refine dq_cons (.p (eB (!decide (s_1 = ([] : Bytes))))) [(16, .p (eB (!decide (s_1 = ([] : Bytes)))))] ⟨.inr ⟨1, rfl, rfl⟩, trivial⟩ (fun sl hsl K hK => one_op rfl (ok_move rfl rfl rfl (hsl _ _ rfl) hK)) rfl rfl rfl ?_
            refine dq_cons (.p (eS s_1)) [(1, .p (eS s_1)), (17, .p (eB (!decide (s_1 = ([] : Bytes)))))] ⟨.inl rfl, .inr ⟨2, rfl, rfl⟩, trivial⟩ (fun sl hsl K hK => one_yes (ok_move rfl rfl rfl (hsl _ _ rfl) hK) rfl rfl (hsl _ _ rfl) (nd_true c4)) rfl rfl rfl ?_
            obtain ⟨h14, h1⟩ := ck_cut h1
            refine dq_cons (.p (eK .u8 (byt s_1 0))) [(17, .p (eB (!decide (s_1 = ([] : Bytes))))), (18, .p (eS s_1))] ⟨.inr ⟨2, rfl, rfl⟩, .inr ⟨3, rfl, rfl⟩, trivial⟩ (fun sl hsl K hK => one_yes (op_indexS rfl rfl rfl rfl rfl (hsl _ _ rfl) rfl h14 hK) rfl rfl (hsl _ _ rfl) (nd_true c4)) rfl rfl rfl ?_
            refine dq_cons (.p (eS pattern_0)) [(0, .p (eS pattern_0)), (17, .p (eB (!decide (s_1 = ([] : Bytes)))))] ⟨.inl rfl, .inr ⟨2, rfl, rfl⟩, trivial⟩ (fun sl hsl K hK => one_yes (ok_move rfl rfl rfl (hsl _ _ rfl) hK) rfl rfl (hsl _ _ rfl) (nd_true c4)) rfl rfl rfl ?_
            obtain ⟨h15, h1⟩ := ck_cut h1
            refine dq_cons (.p (eK .u8 (byt pattern_0 0))) [(17, .p (eB (!decide (s_1 = ([] : Bytes))))), (20, .p (eS pattern_0))] ⟨.inr ⟨2, rfl, rfl⟩, .inr ⟨5, rfl, rfl⟩, trivial⟩ (fun sl hsl K hK => one_yes (op_indexS rfl rfl rfl rfl rfl (hsl _ _ rfl) rfl h15 hK) rfl rfl (hsl _ _ rfl) (nd_true c4)) rfl rfl rfl ?_
            refine dq_cons (.p (eB (decide (byt s_1 0 = byt pattern_0 0)))) [(17, .p (eB (!decide (s_1 = ([] : Bytes))))), (19, .p (eK .u8 (byt s_1 0))), (21, .p (eK .u8 (byt pattern_0 0)))] ⟨.inr ⟨2, rfl, rfl⟩, .inr ⟨4, rfl, rfl⟩, .inr ⟨6, rfl, rfl⟩, trivial⟩ (fun sl hsl K hK => one_yes (ok_cmp rfl rfl rfl (hsl _ _ rfl) (hsl _ _ rfl) rfl hK) rfl rfl (hsl _ _ rfl) (nd_true c4)) rfl rfl rfl ?_
            refine dq_cons (.p (eB (decide (byt s_1 0 = byt pattern_0 0)))) [(17, .p (eB (!decide (s_1 = ([] : Bytes))))), (22, .p (eB (decide (byt s_1 0 = byt pattern_0 0))))] ⟨.inr ⟨2, rfl, rfl⟩, .inr ⟨7, rfl, rfl⟩, trivial⟩ (fun sl hsl K hK => one_op rfl (ok_pick_true rfl rfl rfl (hsl _ _ rfl) (nd_true c4) (hsl _ _ rfl) hK)) rfl rfl rfl ?_
            refine dq_cons (.p (eB (decide (byt s_1 0 = byt pattern_0 0)))) [(23, .p (eB (decide (byt s_1 0 = byt pattern_0 0))))] ⟨.inr ⟨8, rfl, rfl⟩, trivial⟩ (fun sl hsl K hK => one_op rfl (ok_move rfl rfl rfl (hsl _ _ rfl) hK)) rfl rfl rfl ?_
            refine dq_cons (.p (.val Go.undef)) [(0, .p (eS pattern_0)), (24, .p (eB (decide (byt s_1 0 = byt pattern_0 0))))] ⟨.inl rfl, .inr ⟨9, rfl, rfl⟩, trivial⟩ (fun sl hsl K hK => one_no rfl rfl (hsl _ _ rfl) (decide_eq_false c7) rfl rfl hK) rfl rfl rfl ?_
            refine dq_cons (.p (.val Go.undef)) [(24, .p (eB (decide (byt s_1 0 = byt pattern_0 0)))), (25, .p (.val (.tuple #[])))] ⟨.inr ⟨9, rfl, rfl⟩, .inr ⟨10, rfl, rfl⟩, trivial⟩ (fun sl hsl K hK => one_no rfl rfl (hsl _ _ rfl) (decide_eq_false c7) rfl rfl hK) rfl rfl rfl ?_
            refine dq_cons (.p (.val Go.undef)) [(1, .p (eS s_1)), (24, .p (eB (decide (byt s_1 0 = byt pattern_0 0))))] ⟨.inl rfl, .inr ⟨9, rfl, rfl⟩, trivial⟩ (fun sl hsl K hK => one_no rfl rfl (hsl _ _ rfl) (decide_eq_false c7) rfl rfl hK) rfl rfl rfl ?_
            refine dq_cons (.p (.val Go.undef)) [(24, .p (eB (decide (byt s_1 0 = byt pattern_0 0)))), (27, .p (.val (.tuple #[])))] ⟨.inr ⟨9, rfl, rfl⟩, .inr ⟨12, rfl, rfl⟩, trivial⟩ (fun sl hsl K hK => one_no rfl rfl (hsl _ _ rfl) (decide_eq_false c7) rfl rfl hK) rfl rfl rfl ?_
            refine dq_cons (.p (.val Go.undef)) [(24, .p (eB (decide (byt s_1 0 = byt pattern_0 0)))), (26, .p (.val (.tuple #[]))), (28, .p (.val (.tuple #[])))] ⟨.inr ⟨9, rfl, rfl⟩, .inr ⟨11, rfl, rfl⟩, .inr ⟨13, rfl, rfl⟩, trivial⟩ (fun sl hsl K hK => one_no rfl rfl (hsl _ _ rfl) (decide_eq_false c7) rfl rfl hK) rfl rfl rfl ?_
            refine dq_cons (.p (eB false)) [(24, .p (eB (decide (byt s_1 0 = byt pattern_0 0)))), (29, .p (.val (.tuple #[])))] ⟨.inr ⟨9, rfl, rfl⟩, .inr ⟨14, rfl, rfl⟩, trivial⟩ (fun sl hsl K hK => one_op rfl (ok_pick_false rfl rfl rfl (hsl _ _ rfl) (decide_eq_false c7) rfl hK)) rfl rfl rfl ?_
            refine dq_cons (.p (eB false)) [(30, .p (eB false))] ⟨.inr ⟨15, rfl, rfl⟩, trivial⟩ (fun sl hsl K hK => one_op rfl (ok_assign rfl rfl rfl (hsl _ _ rfl) hK)) rfl rfl rfl ?_
            refine dq_nil ?_
            (repeat (first | refine thenQ_exit ?_ | refine thenQ_ret ?_ | refine exQ_hit ?_ | refine exQ_other rfl ?_ | refine exQ_ret ?_ | refine exQ_normal ?_ | refine blockQ_ret ?_ | refine blockQ_normal ?_ | refine blockQ_exit ?_ | refine blockQ_other rfl ?_ | refine noGoto_ret ?_ | refine noGoto_exit ?_ | refine noGoto_normal ?_))
            have e1 := Option.some.inj h1
            subst e1
            exact le_mk ⟨⟨_, rfl, AV.sub_refl _⟩, trivial⟩ trivial
    · replace h0 := if_t c3 h0
      refine awp_skip ?_
      refine awp_seq ?_
      refine awp_reg ?_
      refine rwpL_op rfl ?_
      refine ok_move rfl rfl rfl rfl ?_
      obtain ⟨h17, h0⟩ := ck_cut h0
      refine rwpL_op rfl ?_
      refine op_sliceS rfl rfl rfl rfl rfl rfl rfl rfl h17 ?_
      refine rwpL_op rfl ?_
      refine ok_assign rfl rfl rfl rfl ?_
      refine rwpL_op rfl ?_
      refine ok_assign rfl rfl rfl rfl ?_
      refine rwpL_nil ?_
      refine awp_seq ?_
      obtain ⟨o55, h1, h0⟩ := bd_cut h0
      refine awp_cutN (fun s' => s'.le ⟨[(1, .p (eS s_1)), (5, .p (eS o55.1)), (6, .p (eB o55.2))], []⟩) ?_ ?_
      · intro s' hle
        (repeat (first | refine thenQ_exit ?_ | refine thenQ_ret ?_ | refine exQ_hit ?_ | refine exQ_other rfl ?_ | refine exQ_ret ?_ | refine exQ_normal ?_ | refine blockQ_ret ?_ | refine blockQ_normal ?_ | refine blockQ_exit ?_ | refine blockQ_other rfl ?_ | refine noGoto_ret ?_ | refine noGoto_exit ?_ | refine noGoto_normal ?_))
        refine awp_weaken hle ?_
        refine awp_seq ?_
        refine awp_seq ?_
        refine awp_reg ?_
        refine rwpL_op rfl ?_
        refine ok_assign rfl rfl rfl rfl ?_
        refine rwpL_nil ?_
        refine awp_block ?_
        obtain ⟨o57, h1, hL0, hR0⟩ := jn_cut h0
        refine awp_cutE 0 (fun s' => ∃ v58 : Unit, o57 = .inl v58 ∧ s'.le ⟨[], []⟩) ?_ ?_
        · rintro s' ⟨v58, hv, hle⟩
          have h0 := hL0 _ hv
          (repeat (first | refine thenQ_exit ?_ | refine thenQ_ret ?_ | refine exQ_hit ?_ | refine exQ_other rfl ?_ | refine exQ_ret ?_ | refine exQ_normal ?_ | refine blockQ_ret ?_ | refine blockQ_normal ?_ | refine blockQ_exit ?_ | refine blockQ_other rfl ?_ | refine noGoto_ret ?_ | refine noGoto_exit ?_ | refine noGoto_normal ?_))
          refine awp_weaken hle ?_
          (repeat (first | refine thenQ_exit ?_ | refine thenQ_ret ?_ | refine exQ_hit ?_ | refine exQ_other rfl ?_ | refine exQ_ret ?_ | refine exQ_normal ?_ | refine blockQ_ret ?_ | refine blockQ_normal ?_ | refine blockQ_exit ?_ | refine blockQ_other rfl ?_ | refine noGoto_ret ?_ | refine noGoto_exit ?_ | refine noGoto_normal ?_))
          refine awp_seq ?_
          refine awp_reg ?_
          refine rwpL_op rfl ?_
          refine ok_assign rfl rfl rfl rfl ?_
          refine rwpL_nil ?_
          refine awp_ret ?_
          (repeat (first | refine thenQ_exit ?_ | refine thenQ_ret ?_ | refine exQ_hit ?_ | refine exQ_other rfl ?_ | refine exQ_ret ?_ | refine exQ_normal ?_ | refine blockQ_ret ?_ | refine blockQ_normal ?_ | refine blockQ_exit ?_ | refine blockQ_other rfl ?_ | refine noGoto_ret ?_ | refine noGoto_exit ?_ | refine noGoto_normal ?_))
          have e0 := Option.some.inj h0
          subst e0
          refine ret_mk rfl ?_
          exact AV.sub_refl _
        · skip
          refine awp_loopF (fun q59 => ⟨[(1, .p (eS s_1)), (5, .p (eS o55.1)), (6, .p (eB o55.2)), (7, .p (eI q59))], []⟩) (fun m (q59 : Int) => law05_splits_l1 (law05_splits n) s_1 o55.1 o55.2 m q59) (fun _ => rfl) 0 h1 (le_mk ⟨⟨_, rfl, AV.sub_refl _⟩, ⟨_, rfl, AV.sub_refl _⟩, ⟨_, rfl, AV.sub_refl _⟩, ⟨_, rfl, AV.sub_refl _⟩, trivial⟩ trivial) ?_
          rintro m k37 h1
          replace h1 : law05_splits_l1 (law05_splits n) s_1 o55.1 o55.2 (m + 1) k37 = some o57 := h1
          rw [law05_splits_l1] at h1
          refine awp_seq ?_
          refine awp_seq ?_
          refine awp_reg ?_
          refine rwpL_op rfl ?_
          refine ok_move rfl rfl rfl rfl ?_
          refine rwpL_op rfl ?_
          refine ok_move rfl rfl rfl rfl ?_
          refine rwpL_op rfl ?_
          refine ok_lenS rfl rfl rfl rfl rfl rfl ?_
          refine rwpL_op rfl ?_
          refine ok_cmp rfl rfl rfl rfl rfl rfl ?_
          refine rwpL_nil ?_
          refine wp_ifD rfl (fun c38 => ?_) (fun c38 => ?_)
          · replace h1 := if_t c38 h1
            refine awp_skip ?_
            refine awp_seq ?_
            refine awp_block ?_
            refine awp_seq ?_
            refine awp_seq ?_
            refine awp_reg ?_
            refine rwpL_op rfl ?_
            refine ok_move rfl rfl rfl rfl ?_
            refine rwpL_op rfl ?_
            refine ok_move rfl rfl rfl rfl ?_
            refine rwpL_op rfl ?_
            refine ok_move rfl rfl rfl rfl ?_
            obtain ⟨h39, h1⟩ := ck_cut h1
            refine rwpL_op rfl ?_
            refine op_sliceS rfl rfl rfl rfl rfl rfl rfl rfl h39 ?_
            obtain ⟨r40, e41, h1⟩ := bd_cut h1
            refine rwpL_op rfl ?_
            refine ok_callP (ih_law05_splits_ok o55.1 (sub s_1 k37 (s_1.length : Int)) _ e41) rfl rfl rfl rfl ⟨AV.sub_refl _, AV.sub_refl _, trivial⟩ Try.call18 rfl ?_
            refine rwpL_nil ?_
            refine wp_if rfl (fun c42 => ?_) (fun c42 => ?_)
            · replace h1 := if_t c42 h1
              refine awp_seq ?_
              refine awp_reg ?_
              refine rwpL_op rfl ?_
              refine ok_assign rfl rfl rfl rfl ?_
              refine rwpL_nil ?_
              refine awp_ret ?_
              (repeat (first | refine thenQ_exit ?_ | refine thenQ_ret ?_ | refine exQ_hit ?_ | refine exQ_other rfl ?_ | refine exQ_ret ?_ | refine exQ_normal ?_ | refine blockQ_ret ?_ | refine blockQ_normal ?_ | refine blockQ_exit ?_ | refine blockQ_other rfl ?_ | refine noGoto_ret ?_ | refine noGoto_exit ?_ | refine noGoto_normal ?_))
              have e1 := Option.some.inj h1
              have e0 := hR0 _ e1.symm
              subst e0
              refine ret_mk rfl ?_
              exact AV.sub_refl _
            · replace h1 := if_bf c42 h1
              refine awp_skip ?_
              refine awp_seq ?_
              obtain ⟨o60, h2, h1⟩ := bd_cut h1
              refine awp_cutN (fun s' => s'.le ⟨[(1, .p (eS s_1)), (5, .p (eS o55.1)), (6, .p (eB o55.2)), (7, .p (eI k37)), (66, .p (eB o60))], []⟩) ?_ ?_
              · intro s' hle
                (repeat (first | refine thenQ_exit ?_ | refine thenQ_ret ?_ | refine exQ_hit ?_ | refine exQ_other rfl ?_ | refine exQ_ret ?_ | refine exQ_normal ?_ | refine blockQ_ret ?_ | refine blockQ_normal ?_ | refine blockQ_exit ?_ | refine blockQ_other rfl ?_ | refine noGoto_ret ?_ | refine noGoto_exit ?_ | refine noGoto_normal ?_))
                refine awp_weaken hle ?_
                refine wp_if rfl (fun c47 => ?_) (fun c47 => ?_)
                · replace h1 := if_t c47 h1
                  refine awp_seq ?_
                  refine awp_reg ?_
                  refine rwpL_op rfl ?_
                  refine ok_assign rfl rfl rfl rfl ?_
                  refine rwpL_nil ?_
                  refine awp_ret ?_
                  (repeat (first | refine thenQ_exit ?_ | refine thenQ_ret ?_ | refine exQ_hit ?_ | refine exQ_other rfl ?_ | refine exQ_ret ?_ | refine exQ_normal ?_ | refine blockQ_ret ?_ | refine blockQ_normal ?_ | refine blockQ_exit ?_ | refine blockQ_other rfl ?_ | refine noGoto_ret ?_ | refine noGoto_exit ?_ | refine noGoto_normal ?_))
                  have e1 := Option.some.inj h1
                  have e0 := hR0 _ e1.symm
                  subst e0
                  refine ret_mk rfl ?_
                  exact AV.sub_refl _
                · replace h1 := if_bf c47 h1
                  refine awp_skip ?_
                  (repeat (first | refine thenQ_exit ?_ | refine thenQ_ret ?_ | refine exQ_hit ?_ | refine exQ_other rfl ?_ | refine exQ_ret ?_ | refine exQ_normal ?_ | refine blockQ_ret ?_ | refine blockQ_normal ?_ | refine blockQ_exit ?_ | refine blockQ_other rfl ?_ | refine noGoto_ret ?_ | refine noGoto_exit ?_ | refine noGoto_normal ?_))
                  refine awp_reg ?_
                  refine rwpL_op rfl ?_
                  refine ok_move rfl rfl rfl rfl ?_
                  obtain ⟨h48, h1⟩ := ck_cut h1
                  refine rwpL_op rfl ?_
                  refine ok_ar rfl rfl rfl rfl rfl rfl h48 ?_
                  refine rwpL_op rfl ?_
                  refine ok_assign rfl rfl rfl rfl ?_
                  refine rwpL_nil ?_
                  (repeat (first | refine thenQ_exit ?_ | refine thenQ_ret ?_ | refine exQ_hit ?_ | refine exQ_other rfl ?_ | refine exQ_ret ?_ | refine exQ_normal ?_ | refine blockQ_ret ?_ | refine blockQ_normal ?_ | refine blockQ_exit ?_ | refine blockQ_other rfl ?_ | refine noGoto_ret ?_ | refine noGoto_exit ?_ | refine noGoto_normal ?_))
                  exact ⟨(k37 + 1), h1, le_mk ⟨⟨_, rfl, AV.sub_refl _⟩, ⟨_, rfl, AV.sub_refl _⟩, ⟨_, rfl, AV.sub_refl _⟩, ⟨_, rfl, AV.sub_refl _⟩, trivial⟩ trivial⟩
              · skip
                refine awp_reg ?_
                refine rwpL_op rfl ?_
                refine ok_move rfl rfl rfl rfl ?_
                refine rwpL_op rfl ?_
                refine ok_move rfl rfl rfl rfl ?_
                refine rwpL_op rfl ?_
                refine ok_lenS rfl rfl rfl rfl rfl rfl ?_
                refine rwpL_op rfl ?_
                refine ok_cmp rfl rfl rfl rfl rfl rfl ?_
                refine rwpL_op rfl ?_
                refine ok_move rfl rfl rfl rfl ?_
                refine gd_D rfl rfl rfl (fun c43 => ?_) (fun c43 => ?_)
                · replace h2 := if_t c43 h2
                  refine gd_tt rfl rfl rfl (decide_eq_true c43) ?_
                  refine ok_move rfl rfl rfl rfl ?_
                  refine gd_tt rfl rfl rfl (decide_eq_true c43) ?_
                  refine ok_move rfl rfl rfl rfl ?_
                  obtain ⟨h44, h2⟩ := ck_cut h2
                  refine gd_tt rfl rfl rfl (decide_eq_true c43) ?_
                  refine op_indexS rfl rfl rfl rfl rfl rfl rfl h44 ?_
                  refine gd_tt rfl rfl rfl (decide_eq_true c43) ?_
                  refine ok_cmp rfl rfl rfl rfl rfl rfl ?_
                  refine rwpL_op rfl ?_
                  refine ok_pick_true rfl rfl rfl rfl (decide_eq_true c43) rfl ?_
                  refine rwpL_op rfl ?_
                  refine ok_move rfl rfl rfl rfl ?_
                  refine gd_D rfl rfl rfl (fun c45 => ?_) (fun c45 => ?_)
                  · replace h2 := if_t c45 h2
                    refine gd_tt rfl rfl rfl (decide_eq_true c45) ?_
                    refine ok_move rfl rfl rfl rfl ?_
                    refine gd_tt rfl rfl rfl (decide_eq_true c45) ?_
                    refine ok_not rfl rfl rfl rfl ?_
                    refine rwpL_op rfl ?_
                    refine ok_pick_true rfl rfl rfl rfl (decide_eq_true c45) rfl ?_
                    refine rwpL_nil ?_
                    (repeat (first | refine thenQ_exit ?_ | refine thenQ_ret ?_ | refine exQ_hit ?_ | refine exQ_other rfl ?_ | refine exQ_ret ?_ | refine exQ_normal ?_ | refine blockQ_ret ?_ | refine blockQ_normal ?_ | refine blockQ_exit ?_ | refine blockQ_other rfl ?_ | refine noGoto_ret ?_ | refine noGoto_exit ?_ | refine noGoto_normal ?_))
                    have e2 := Option.some.inj h2
                    subst e2
                    exact le_mk ⟨⟨_, rfl, AV.sub_refl _⟩, ⟨_, rfl, AV.sub_refl _⟩, ⟨_, rfl, AV.sub_refl _⟩, ⟨_, rfl, AV.sub_refl _⟩, ⟨_, rfl, AV.sub_refl _⟩, trivial⟩ trivial
                  · replace h2 := if_f c45 h2
                    refine gd_tf rfl rfl rfl (decide_eq_false c45) rfl rfl ?_
                    refine gd_tf rfl rfl rfl (decide_eq_false c45) rfl rfl ?_
                    refine rwpL_op rfl ?_
                    refine ok_pick_false rfl rfl rfl rfl (decide_eq_false c45) rfl ?_
                    refine rwpL_nil ?_
                    (repeat (first | refine thenQ_exit ?_ | refine thenQ_ret ?_ | refine exQ_hit ?_ | refine exQ_other rfl ?_ | refine exQ_ret ?_ | refine exQ_normal ?_ | refine blockQ_ret ?_ | refine blockQ_normal ?_ | refine blockQ_exit ?_ | refine blockQ_other rfl ?_ | refine noGoto_ret ?_ | refine noGoto_exit ?_ | refine noGoto_normal ?_))
                    have e2 := Option.some.inj h2
                    subst e2
                    exact le_mk ⟨⟨_, rfl, AV.sub_refl _⟩, ⟨_, rfl, AV.sub_refl _⟩, ⟨_, rfl, AV.sub_refl _⟩, ⟨_, rfl, AV.sub_refl _⟩, ⟨_, rfl, AV.sub_refl _⟩, trivial⟩ trivial
                · replace h2 := if_f c43 h2
                  refine gd_tf rfl rfl rfl (decide_eq_false c43) rfl rfl ?_
                  refine gd_tf rfl rfl rfl (decide_eq_false c43) rfl rfl ?_
                  refine gd_tf rfl rfl rfl (decide_eq_false c43) rfl rfl ?_
                  refine gd_tf rfl rfl rfl (decide_eq_false c43) rfl rfl ?_
                  refine rwpL_op rfl ?_
                  refine ok_pick_false rfl rfl rfl rfl (decide_eq_false c43) rfl ?_
                  refine rwpL_op rfl ?_
                  refine ok_move rfl rfl rfl rfl ?_
                  refine gd_tf rfl rfl rfl (rfl) rfl rfl ?_
                  refine gd_tf rfl rfl rfl (rfl) rfl rfl ?_
                  refine rwpL_op rfl ?_
                  refine ok_pick_false rfl rfl rfl rfl (rfl) rfl ?_
                  refine rwpL_nil ?_
                  (repeat (first | refine thenQ_exit ?_ | refine thenQ_ret ?_ | refine exQ_hit ?_ | refine exQ_other rfl ?_ | refine exQ_ret ?_ | refine exQ_normal ?_ | refine blockQ_ret ?_ | refine blockQ_normal ?_ | refine blockQ_exit ?_ | refine blockQ_other rfl ?_ | refine noGoto_ret ?_ | refine noGoto_exit ?_ | refine noGoto_normal ?_))
                  have e2 := Option.some.inj h2
                  subst e2
                  exact le_mk ⟨⟨_, rfl, AV.sub_refl _⟩, ⟨_, rfl, AV.sub_refl _⟩, ⟨_, rfl, AV.sub_refl _⟩, ⟨_, rfl, AV.sub_refl _⟩, ⟨_, rfl, AV.sub_refl _⟩, trivial⟩ trivial
          · replace h1 := if_f c38 h1
            refine awp_exit ?_
            (repeat (first | refine thenQ_exit ?_ | refine thenQ_ret ?_ | refine exQ_hit ?_ | refine exQ_other rfl ?_ | refine exQ_ret ?_ | refine exQ_normal ?_ | refine blockQ_ret ?_ | refine blockQ_normal ?_ | refine blockQ_exit ?_ | refine blockQ_other rfl ?_ | refine noGoto_ret ?_ | refine noGoto_exit ?_ | refine noGoto_normal ?_))
            have e1 := Option.some.inj h1
            exact ⟨_, e1.symm, le_mk trivial trivial⟩
      · skip
        refine awp_seq ?_
        obtain ⟨o62, h2, h1⟩ := bd_cut h1
        refine awp_cutN (fun s' => s'.le ⟨[(1, .p (eS s_1)), (5, .p (eS (sub pattern_0 1 (pattern_0.length : Int)))), (6, .p (eB false)), (39, .p (eB o62))], []⟩) ?_ ?_
        · intro s' hle
          (repeat (first | refine thenQ_exit ?_ | refine thenQ_ret ?_ | refine exQ_hit ?_ | refine exQ_other rfl ?_ | refine exQ_ret ?_ | refine exQ_normal ?_ | refine blockQ_ret ?_ | refine blockQ_normal ?_ | refine blockQ_exit ?_ | refine blockQ_other rfl ?_ | refine noGoto_ret ?_ | refine noGoto_exit ?_ | refine noGoto_normal ?_))
          refine awp_weaken hle ?_
          refine wp_if rfl (fun c21 => ?_) (fun c21 => ?_)
          · replace h1 := if_t c21 h1
            refine awp_reg ?_
            refine rwpL_op rfl ?_
            refine ok_move rfl rfl rfl rfl ?_
            obtain ⟨h22, h1⟩ := ck_cut h1
            refine rwpL_op rfl ?_
            refine op_sliceS rfl rfl rfl rfl rfl rfl rfl rfl h22 ?_
            refine rwpL_op rfl ?_
            refine ok_assign rfl rfl rfl rfl ?_
            refine rwpL_op rfl ?_
            refine ok_assign rfl rfl rfl rfl ?_
            refine rwpL_nil ?_
            (repeat (first | refine thenQ_exit ?_ | refine thenQ_ret ?_ | refine exQ_hit ?_ | refine exQ_other rfl ?_ | refine exQ_ret ?_ | refine exQ_normal ?_ | refine blockQ_ret ?_ | refine blockQ_normal ?_ | refine blockQ_exit ?_ | refine blockQ_other rfl ?_ | refine noGoto_ret ?_ | refine noGoto_exit ?_ | refine noGoto_normal ?_))
            have e1 := Option.some.inj h1
            subst e1
            exact le_mk ⟨⟨_, rfl, AV.sub_refl _⟩, ⟨_, rfl, AV.sub_refl _⟩, ⟨_, rfl, AV.sub_refl _⟩, trivial⟩ trivial
          · replace h1 := if_bf c21 h1
            refine awp_skip ?_
            (repeat (first | refine thenQ_exit ?_ | refine thenQ_ret ?_ | refine exQ_hit ?_ | refine exQ_other rfl ?_ | refine exQ_ret ?_ | refine exQ_normal ?_ | refine blockQ_ret ?_ | refine blockQ_normal ?_ | refine blockQ_exit ?_ | refine blockQ_other rfl ?_ | refine noGoto_ret ?_ | refine noGoto_exit ?_ | refine noGoto_normal ?_))
            have e1 := Option.some.inj h1
            subst e1
            exact le_mk ⟨⟨_, rfl, AV.sub_refl _⟩, ⟨_, rfl, AV.sub_refl _⟩, ⟨_, rfl, AV.sub_refl _⟩, trivial⟩ trivial
        · skip
          refine awp_reg ?_
          refine rwpL_op rfl ?_
          refine ok_move rfl rfl rfl rfl ?_
          refine rwpL_op rfl ?_
          refine ok_cmpS rfl rfl rfl rfl rfl rfl ?_
          refine rwpL_op rfl ?_
          refine ok_move rfl rfl rfl rfl ?_
          refine gd_N rfl rfl rfl (fun c18 => ?_) (fun c18 => ?_)
          · replace h2 := if_t c18 h2
            refine gd_tf rfl rfl rfl (nd_false c18) rfl rfl ?_
            refine gd_tf rfl rfl rfl (nd_false c18) rfl rfl ?_
            refine gd_tf rfl rfl rfl (nd_false c18) rfl rfl ?_
            refine rwpL_op rfl ?_
            refine ok_pick_false rfl rfl rfl rfl (nd_false c18) rfl ?_
            refine rwpL_nil ?_
            (repeat (first | refine thenQ_exit ?_ | refine thenQ_ret ?_ | refine exQ_hit ?_ | refine exQ_other rfl ?_ | refine exQ_ret ?_ | refine exQ_normal ?_ | refine blockQ_ret ?_ | refine blockQ_normal ?_ | refine blockQ_exit ?_ | refine blockQ_other rfl ?_ | refine noGoto_ret ?_ | refine noGoto_exit ?_ | refine noGoto_normal ?_))
            have e2 := Option.some.inj h2
            subst e2
            exact le_mk ⟨⟨_, rfl, AV.sub_refl _⟩, ⟨_, rfl, AV.sub_refl _⟩, ⟨_, rfl, AV.sub_refl _⟩, ⟨_, rfl, AV.sub_refl _⟩, trivial⟩ trivial
          · replace h2 := if_f c18 h2
            refine gd_tt rfl rfl rfl (nd_true c18) ?_
            refine ok_move rfl rfl rfl rfl ?_
            obtain ⟨h19, h2⟩ := ck_cut h2
            refine gd_tt rfl rfl rfl (nd_true c18) ?_
            refine op_indexS rfl rfl rfl rfl rfl rfl rfl h19 ?_
            refine gd_tt rfl rfl rfl (nd_true c18) ?_
            refine ok_cmp rfl rfl rfl rfl rfl rfl ?_
            refine rwpL_op rfl ?_
            refine ok_pick_true rfl rfl rfl rfl (nd_true c18) rfl ?_
            refine rwpL_nil ?_
            (repeat (first | refine thenQ_exit ?_ | refine thenQ_ret ?_ | refine exQ_hit ?_ | refine exQ_other rfl ?_ | refine exQ_ret ?_ | refine exQ_normal ?_ | refine blockQ_ret ?_ | refine blockQ_normal ?_ | refine blockQ_exit ?_ | refine blockQ_other rfl ?_ | refine noGoto_ret ?_ | refine noGoto_exit ?_ | refine noGoto_normal ?_))
            have e2 := Option.some.inj h2
            subst e2
            exact le_mk ⟨⟨_, rfl, AV.sub_refl _⟩, ⟨_, rfl, AV.sub_refl _⟩, ⟨_, rfl, AV.sub_refl _⟩, ⟨_, rfl, AV.sub_refl _⟩, trivial⟩ trivial

def law05_GlobSplits (n : Nat) (pattern_0 : Bytes) (s_1 : Bytes) : Option Bool :=
  (
      if 60 < (pattern_0.length : Int) then
        some true
      else
        if 40 < (s_1.length : Int) then
          some true
        else
          ck (pattern_0.length ≤ 65536) <|
          if 4 < rgN pattern_0 pattern_0.length then
            some true
          else
            ck (pattern_0.length ≤ 65536) <|
            some (!decide (check pattern_0 = 0))
    : Option Bool).bind fun t6 =>
  if t6 = true then
    some true
  else
    (
        ck (pattern_0.length ≤ 65536 ∧ s_1.length ≤ 32768) <|
        (law05_splits n pattern_0 s_1).bind fun r9 =>
        if ((matchL pattern_0 s_1) == r9) = true then
          some true
        else
          some false
      : Option Bool).bind fun t12 =>
    some t12

set_option maxHeartbeats 4000000 in
theorem law05_GlobSplits_ok (n : Nat) (pattern_0 : Bytes) (s_1 : Bytes) (r : Bool) (h0 : law05_GlobSplits n pattern_0 s_1 = some r) : PCalls Try.prog 5 [eS pattern_0, eS s_1] (· = .p (eB r)) := by
  unfold law05_GlobSplits at h0
  refine pbody good Try.func5 rfl rfl rfl fun w0 => ?_
  refine awp_seq ?_
  refine awp_reg ?_
  refine rwpL_op rfl ?_
  refine ok_assign rfl rfl rfl rfl ?_
  refine rwpL_nil ?_
  refine awp_seq ?_
  refine awp_seq ?_
  obtain ⟨o15, h1, h0⟩ := bd_cut h0
  refine awp_cutN (fun s' => s'.le ⟨[(0, .p (eS pattern_0)), (1, .p (eS s_1)), (22, .p (eB o15))], []⟩) ?_ ?_
  · intro s' hle
    (repeat (first | refine thenQ_exit ?_ | refine thenQ_ret ?_ | refine exQ_hit ?_ | refine exQ_other rfl ?_ | refine exQ_ret ?_ | refine exQ_normal ?_ | refine blockQ_ret ?_ | refine blockQ_normal ?_ | refine blockQ_exit ?_ | refine blockQ_other rfl ?_ | refine noGoto_ret ?_ | refine noGoto_exit ?_ | refine noGoto_normal ?_))
    refine awp_weaken hle ?_
    refine wp_if rfl (fun c7 => ?_) (fun c7 => ?_)
    · replace h0 := if_t c7 h0
      refine awp_seq ?_
      refine awp_reg ?_
      refine rwpL_op rfl ?_
      refine ok_callP (awake_ok) rfl rfl rfl rfl trivial Try.call8 rfl ?_
      refine rwpL_op rfl ?_
      refine ok_assign rfl rfl rfl rfl ?_
      refine rwpL_nil ?_
      refine awp_ret ?_
      (repeat (first | refine thenQ_exit ?_ | refine thenQ_ret ?_ | refine exQ_hit ?_ | refine exQ_other rfl ?_ | refine exQ_ret ?_ | refine exQ_normal ?_ | refine blockQ_ret ?_ | refine blockQ_normal ?_ | refine blockQ_exit ?_ | refine blockQ_other rfl ?_ | refine noGoto_ret ?_ | refine noGoto_exit ?_ | refine noGoto_normal ?_))
      have e0 := Option.some.inj h0
      subst e0
      refine ret_mk rfl ?_
      exact AV.sub_refl _
    · replace h0 := if_bf c7 h0
      refine awp_skip ?_
      refine awp_seq ?_
      obtain ⟨o17, h1, h0⟩ := bd_cut h0
      refine awp_cutN (fun s' => s'.le ⟨[(4, .p (eB o17))], []⟩) ?_ ?_
      · intro s' hle
        (repeat (first | refine thenQ_exit ?_ | refine thenQ_ret ?_ | refine exQ_hit ?_ | refine exQ_other rfl ?_ | refine exQ_ret ?_ | refine exQ_normal ?_ | refine blockQ_ret ?_ | refine blockQ_normal ?_ | refine blockQ_exit ?_ | refine blockQ_other rfl ?_ | refine noGoto_ret ?_ | refine noGoto_exit ?_ | refine noGoto_normal ?_))
        refine awp_weaken hle ?_
        refine awp_ret ?_
        (repeat (first | refine thenQ_exit ?_ | refine thenQ_ret ?_ | refine exQ_hit ?_ | refine exQ_other rfl ?_ | refine exQ_ret ?_ | refine exQ_normal ?_ | refine blockQ_ret ?_ | refine blockQ_normal ?_ | refine blockQ_exit ?_ | refine blockQ_other rfl ?_ | refine noGoto_ret ?_ | refine noGoto_exit ?_ | refine noGoto_normal ?_))
        have e0 := Option.some.inj h0
        subst e0
        refine ret_mk rfl ?_
        exact AV.sub_refl _
      · skip
        refine awp_reg ?_
        refine rwpL_op rfl ?_
        refine ok_move rfl rfl rfl rfl ?_
        refine rwpL_op rfl ?_
        refine ok_move rfl rfl rfl rfl ?_
        obtain ⟨h8, h1⟩ := ck_cut h1
        refine rwpL_op rfl ?_
        refine ok_callP (match_ok pattern_0 s_1 h8.1 h8.2) rfl rfl rfl rfl ⟨AV.sub_refl _, AV.sub_refl _, trivial⟩ Try.call13 rfl ?_
        refine rwpL_op rfl ?_
        refine ok_move rfl rfl rfl rfl ?_
        refine rwpL_op rfl ?_
        refine ok_move rfl rfl rfl rfl ?_
        obtain ⟨r9, e10, h1⟩ := bd_cut h1
        refine rwpL_op rfl ?_
        refine ok_callP (law05_splits_ok _ pattern_0 s_1 _ e10) rfl rfl rfl rfl ⟨AV.sub_refl _, AV.sub_refl _, trivial⟩ Try.call18 rfl ?_
        refine rwpL_op rfl ?_
        refine ok_cmpB rfl rfl rfl rfl rfl rfl rfl rfl ?_
        refine rwpL_op rfl ?_
        refine ok_move rfl rfl rfl rfl ?_
        refine gd_B rfl rfl rfl (fun c11 => ?_) (fun c11 => ?_)
        · replace h1 := if_t c11 h1
          refine gd_tt rfl rfl rfl (c11) ?_
          refine ok_callP (awake_ok) rfl rfl rfl rfl trivial Try.call8 rfl ?_
          refine rwpL_op rfl ?_
          refine ok_pick_true rfl rfl rfl rfl (c11) rfl ?_
          refine rwpL_op rfl ?_
          refine ok_assign rfl rfl rfl rfl ?_
          refine rwpL_nil ?_
          (repeat (first | refine thenQ_exit ?_ | refine thenQ_ret ?_ | refine exQ_hit ?_ | refine exQ_other rfl ?_ | refine exQ_ret ?_ | refine exQ_normal ?_ | refine blockQ_ret ?_ | refine blockQ_normal ?_ | refine blockQ_exit ?_ | refine blockQ_other rfl ?_ | refine noGoto_ret ?_ | refine noGoto_exit ?_ | refine noGoto_normal ?_))
          have e1 := Option.some.inj h1
          subst e1
          exact le_mk ⟨⟨_, rfl, AV.sub_refl _⟩, trivial⟩ trivial
        · replace h1 := if_bf c11 h1
          refine gd_tf rfl rfl rfl (c11) rfl rfl ?_
          refine rwpL_op rfl ?_
          refine ok_pick_false rfl rfl rfl rfl (c11) rfl ?_
          refine rwpL_op rfl ?_
          refine ok_assign rfl rfl rfl rfl ?_
          refine rwpL_nil ?_
          (repeat (first | refine thenQ_exit ?_ | refine thenQ_ret ?_ | refine exQ_hit ?_ | refine exQ_other rfl ?_ | refine exQ_ret ?_ | refine exQ_normal ?_ | refine blockQ_ret ?_ | refine blockQ_normal ?_ | refine blockQ_exit ?_ | refine blockQ_other rfl ?_ | refine noGoto_ret ?_ | refine noGoto_exit ?_ | refine noGoto_normal ?_))
          have e1 := Option.some.inj h1
          subst e1
          exact le_mk ⟨⟨_, rfl, AV.sub_refl _⟩, trivial⟩ trivial
  · skip
    refine awp_reg ?_
    refine rwpL_op rfl ?_
    refine ok_move rfl rfl rfl rfl ?_
    refine rwpL_op rfl ?_
    refine ok_lenS rfl rfl rfl rfl rfl rfl ?_
    refine rwpL_op rfl ?_
    refine ok_cmp rfl rfl rfl rfl rfl rfl ?_
    refine rwpL_op rfl ?_
    refine ok_move rfl rfl rfl rfl ?_
    refine gd_D rfl rfl rfl (fun c1 => ?_) (fun c1 => ?_)
    · replace h1 := if_t c1 h1
      refine gd_ft rfl rfl rfl (decide_eq_true c1) rfl rfl ?_
      refine gd_ft rfl rfl rfl (decide_eq_true c1) rfl rfl ?_
      refine gd_ft rfl rfl rfl (decide_eq_true c1) rfl rfl ?_
      refine rwpL_op rfl ?_
      refine ok_pick_true rfl rfl rfl rfl (decide_eq_true c1) rfl ?_
      refine rwpL_op rfl ?_
      refine ok_move rfl rfl rfl rfl ?_
      refine gd_ft rfl rfl rfl (rfl) rfl rfl ?_
      refine gd_ft rfl rfl rfl (rfl) rfl rfl ?_
      refine gd_ft rfl rfl rfl (rfl) rfl rfl ?_
      refine rwpL_op rfl ?_
      refine ok_pick_true rfl rfl rfl rfl (rfl) rfl ?_
      refine rwpL_op rfl ?_
      refine ok_move rfl rfl rfl rfl ?_
      refine gd_ft rfl rfl rfl (rfl) rfl rfl ?_
      refine gd_ft rfl rfl rfl (rfl) rfl rfl ?_
      refine gd_ft rfl rfl rfl (rfl) rfl rfl ?_
      refine rwpL_op rfl ?_
      refine ok_pick_true rfl rfl rfl rfl (rfl) rfl ?_
      refine rwpL_nil ?_
      (repeat (first | refine thenQ_exit ?_ | refine thenQ_ret ?_ | refine exQ_hit ?_ | refine exQ_other rfl ?_ | refine exQ_ret ?_ | refine exQ_normal ?_ | refine blockQ_ret ?_ | refine blockQ_normal ?_ | refine blockQ_exit ?_ | refine blockQ_other rfl ?_ | refine noGoto_ret ?_ | refine noGoto_exit ?_ | refine noGoto_normal ?_))
      have e1 := Option.some.inj h1
      subst e1
      exact le_mk ⟨⟨_, rfl, AV.sub_refl _⟩, ⟨_, rfl, AV.sub_refl _⟩, ⟨_, rfl, AV.sub_refl _⟩, trivial⟩ trivial
    · replace h1 := if_f c1 h1
      refine gd_ff rfl rfl rfl (decide_eq_false c1) ?_
      refine ok_move rfl rfl rfl rfl ?_
      refine gd_ff rfl rfl rfl (decide_eq_false c1) ?_
      refine ok_lenS rfl rfl rfl rfl rfl rfl ?_
      refine gd_ff rfl rfl rfl (decide_eq_false c1) ?_
      refine ok_cmp rfl rfl rfl rfl rfl rfl ?_
      refine rwpL_op rfl ?_
      refine ok_pick_false rfl rfl rfl rfl (decide_eq_false c1) rfl ?_
      refine rwpL_op rfl ?_
      refine ok_move rfl rfl rfl rfl ?_
      refine gd_D rfl rfl rfl (fun c2 => ?_) (fun c2 => ?_)
      · replace h1 := if_t c2 h1
        refine gd_ft rfl rfl rfl (decide_eq_true c2) rfl rfl ?_
        refine gd_ft rfl rfl rfl (decide_eq_true c2) rfl rfl ?_
        refine gd_ft rfl rfl rfl (decide_eq_true c2) rfl rfl ?_
        refine rwpL_op rfl ?_
        refine ok_pick_true rfl rfl rfl rfl (decide_eq_true c2) rfl ?_
        refine rwpL_op rfl ?_
        refine ok_move rfl rfl rfl rfl ?_
        refine gd_ft rfl rfl rfl (rfl) rfl rfl ?_
        refine gd_ft rfl rfl rfl (rfl) rfl rfl ?_
        refine gd_ft rfl rfl rfl (rfl) rfl rfl ?_
        refine rwpL_op rfl ?_
        refine ok_pick_true rfl rfl rfl rfl (rfl) rfl ?_
        refine rwpL_nil ?_
        (repeat (first | refine thenQ_exit ?_ | refine thenQ_ret ?_ | refine exQ_hit ?_ | refine exQ_other rfl ?_ | refine exQ_ret ?_ | refine exQ_normal ?_ | refine blockQ_ret ?_ | refine blockQ_normal ?_ | refine blockQ_exit ?_ | refine blockQ_other rfl ?_ | refine noGoto_ret ?_ | refine noGoto_exit ?_ | refine noGoto_normal ?_))
        have e1 := Option.some.inj h1
        subst e1
        exact le_mk ⟨⟨_, rfl, AV.sub_refl _⟩, ⟨_, rfl, AV.sub_refl _⟩, ⟨_, rfl, AV.sub_refl _⟩, trivial⟩ trivial
      · replace h1 := if_f c2 h1
        refine gd_ff rfl rfl rfl (decide_eq_false c2) ?_
        refine ok_move rfl rfl rfl rfl ?_
        obtain ⟨h3, h1⟩ := ck_cut h1
        refine gd_ff rfl rfl rfl (decide_eq_false c2) ?_
        refine ok_callP (lgroups_ok pattern_0 h3) rfl rfl rfl rfl ⟨AV.sub_refl _, trivial⟩ Try.call17 rfl ?_
        refine gd_ff rfl rfl rfl (decide_eq_false c2) ?_
        refine ok_cmp rfl rfl rfl rfl rfl rfl ?_
        refine rwpL_op rfl ?_
        refine ok_pick_false rfl rfl rfl rfl (decide_eq_false c2) rfl ?_
        refine rwpL_op rfl ?_
        refine ok_move rfl rfl rfl rfl ?_
        refine gd_D rfl rfl rfl (fun c4 => ?_) (fun c4 => ?_)
        · replace h1 := if_t c4 h1
          refine gd_ft rfl rfl rfl (decide_eq_true c4) rfl rfl ?_
          refine gd_ft rfl rfl rfl (decide_eq_true c4) rfl rfl ?_
          refine gd_ft rfl rfl rfl (decide_eq_true c4) rfl rfl ?_
          refine rwpL_op rfl ?_
          refine ok_pick_true rfl rfl rfl rfl (decide_eq_true c4) rfl ?_
          refine rwpL_nil ?_
          (repeat (first | refine thenQ_exit ?_ | refine thenQ_ret ?_ | refine exQ_hit ?_ | refine exQ_other rfl ?_ | refine exQ_ret ?_ | refine exQ_normal ?_ | refine blockQ_ret ?_ | refine blockQ_normal ?_ | refine blockQ_exit ?_ | refine blockQ_other rfl ?_ | refine noGoto_ret ?_ | refine noGoto_exit ?_ | refine noGoto_normal ?_))
          have e1 := Option.some.inj h1
          subst e1
          exact le_mk ⟨⟨_, rfl, AV.sub_refl _⟩, ⟨_, rfl, AV.sub_refl _⟩, ⟨_, rfl, AV.sub_refl _⟩, trivial⟩ trivial
        · replace h1 := if_f c4 h1
          refine gd_ff rfl rfl rfl (decide_eq_false c4) ?_
          refine ok_move rfl rfl rfl rfl ?_
          obtain ⟨h5, h1⟩ := ck_cut h1
          refine gd_ff rfl rfl rfl (decide_eq_false c4) ?_
          refine ok_callP (check_ok pattern_0 h5) rfl rfl rfl rfl ⟨AV.sub_refl _, trivial⟩ Try.call9 rfl ?_
          refine gd_ff rfl rfl rfl (decide_eq_false c4) ?_
          refine ok_cmp rfl rfl rfl rfl rfl rfl ?_
          refine rwpL_op rfl ?_
          refine ok_pick_false rfl rfl rfl rfl (decide_eq_false c4) rfl ?_
          refine rwpL_nil ?_
          (repeat (first | refine thenQ_exit ?_ | refine thenQ_ret ?_ | refine exQ_hit ?_ | refine exQ_other rfl ?_ | refine exQ_ret ?_ | refine exQ_normal ?_ | refine blockQ_ret ?_ | refine blockQ_normal ?_ | refine blockQ_exit ?_ | refine blockQ_other rfl ?_ | refine noGoto_ret ?_ | refine noGoto_exit ?_ | refine noGoto_normal ?_))
          have e1 := Option.some.inj h1
          subst e1
          exact le_mk ⟨⟨_, rfl, AV.sub_refl _⟩, ⟨_, rfl, AV.sub_refl _⟩, ⟨_, rfl, AV.sub_refl _⟩, trivial⟩ trivial

def law05_GlobMatches_l1 (n : Nat) (patterns_0 : List Bytes) (s_1 : Bytes) : Nat → Int → Option (Unit ⊕ Bool)
  | 0, _ => none
  | m + 1, i21 =>
  if i21 < (patterns_0.length : Int) then
    (
        if 1100 < ((lat patterns_0 i21).length : Int) then
          ck ((0 : Int) ≤ i21 ∧ i21 < (patterns_0.length : Int)) <|
          some true
        else
          ck ((0 : Int) ≤ i21 ∧ i21 < (patterns_0.length : Int)) <|
          ck ((0 : Int) ≤ i21 ∧ i21 < (patterns_0.length : Int)) <|
          ck ((lat patterns_0 i21).length ≤ 65536 ∧ s_1.length ≤ 32768) <|
          ck ((0 : Int) ≤ i21 ∧ i21 < (patterns_0.length : Int)) <|
          (ref05_Match n (lat patterns_0 i21) s_1).bind fun r30 =>
          some (!((matchL (lat patterns_0 i21) s_1) == r30))
      : Option Bool).bind fun t32 =>
    if t32 = true then
      (
          ck ((0 : Int) ≤ i21 ∧ i21 < (patterns_0.length : Int)) <|
          if 1100 < ((lat patterns_0 i21).length : Int) then
            some true
          else
            some false
        : Option Bool).bind fun t36 =>
      some (.inr t36)
    else
      ck (inR (i21 + 1)) <|
      law05_GlobMatches_l1 n patterns_0 s_1 m (i21 + 1)
  else
    some (.inl ())

def law05_GlobMatches (n : Nat) (patterns_0 : List Bytes) (s_1 : Bytes) : Option Bool :=
  (
      if 6 < (patterns_0.length : Int) then
        some true
      else
        some (decide (300 < (s_1.length : Int)))
    : Option Bool).bind fun t2 =>
  if t2 = true then
    some true
  else
    jn (law05_GlobMatches_l1 n patterns_0 s_1 n 0) fun q46 =>
    (
        (glob_Any n patterns_0 s_1).bind fun r39 =>
        (ref05_Any n patterns_0 s_1).bind fun r41 =>
        if (r39 == r41) = true then
          some true
        else
          some false
      : Option Bool).bind fun t44 =>
    some t44

set_option maxHeartbeats 4000000 in
theorem law05_GlobMatches_ok (n : Nat) (patterns_0 : List Bytes) (s_1 : Bytes) (r : Bool) (h0 : law05_GlobMatches n patterns_0 s_1 = some r) : PCalls Try.prog 4 [eL eS patterns_0, eS s_1] (· = .p (eB r)) := by
  unfold law05_GlobMatches at h0
  refine pbody good Try.func4 rfl rfl rfl fun w0 => ?_
  refine awp_seq ?_
  refine awp_reg ?_
  refine rwpL_op rfl ?_
  refine ok_assign rfl rfl rfl rfl ?_
  refine rwpL_nil ?_
  refine awp_seq ?_
  refine awp_seq ?_
  obtain ⟨o50, h1, h0⟩ := bd_cut h0
  refine awp_cutN (fun s' => s'.le ⟨[(0, .p (eL eS patterns_0)), (1, .p (eS s_1)), (13, .p (eB o50))], []⟩) ?_ ?_
  · intro s' hle
    (repeat (first | refine thenQ_exit ?_ | refine thenQ_ret ?_ | refine exQ_hit ?_ | refine exQ_other rfl ?_ | refine exQ_ret ?_ | refine exQ_normal ?_ | refine blockQ_ret ?_ | refine blockQ_normal ?_ | refine blockQ_exit ?_ | refine blockQ_other rfl ?_ | refine noGoto_ret ?_ | refine noGoto_exit ?_ | refine noGoto_normal ?_))
    refine awp_weaken hle ?_
    refine wp_if rfl (fun c3 => ?_) (fun c3 => ?_)
    · replace h0 := if_t c3 h0
      refine awp_seq ?_
      refine awp_reg ?_
      refine rwpL_op rfl ?_
      refine ok_callP (awake_ok) rfl rfl rfl rfl trivial Try.call8 rfl ?_
      refine rwpL_op rfl ?_
      refine ok_assign rfl rfl rfl rfl ?_
      refine rwpL_nil ?_
      refine awp_ret ?_
      (repeat (first | refine thenQ_exit ?_ | refine thenQ_ret ?_ | refine exQ_hit ?_ | refine exQ_other rfl ?_ | refine exQ_ret ?_ | refine exQ_normal ?_ | refine blockQ_ret ?_ | refine blockQ_normal ?_ | refine blockQ_exit ?_ | refine blockQ_other rfl ?_ | refine noGoto_ret ?_ | refine noGoto_exit ?_ | refine noGoto_normal ?_))
      have e0 := Option.some.inj h0
      subst e0
      refine ret_mk rfl ?_
      exact AV.sub_refl _
    · replace h0 := if_bf c3 h0
      refine awp_skip ?_
      refine awp_seq ?_
      refine awp_seq ?_
      refine awp_reg ?_
      refine rwpL_op rfl ?_
      refine ok_assign rfl rfl rfl rfl ?_
      refine rwpL_nil ?_
      refine awp_block ?_
      obtain ⟨o52, h1, hL0, hR0⟩ := jn_cut h0
      refine awp_cutE 0 (fun s' => ∃ v53 : Unit, o52 = .inl v53 ∧ s'.le ⟨[(0, .p (eL eS patterns_0)), (1, .p (eS s_1))], []⟩) ?_ ?_
      · rintro s' ⟨v53, hv, hle⟩
        have h0 := hL0 _ hv
        (repeat (first | refine thenQ_exit ?_ | refine thenQ_ret ?_ | refine exQ_hit ?_ | refine exQ_other rfl ?_ | refine exQ_ret ?_ | refine exQ_normal ?_ | refine blockQ_ret ?_ | refine blockQ_normal ?_ | refine blockQ_exit ?_ | refine blockQ_other rfl ?_ | refine noGoto_ret ?_ | refine noGoto_exit ?_ | refine noGoto_normal ?_))
        refine awp_weaken hle ?_
        (repeat (first | refine thenQ_exit ?_ | refine thenQ_ret ?_ | refine exQ_hit ?_ | refine exQ_other rfl ?_ | refine exQ_ret ?_ | refine exQ_normal ?_ | refine blockQ_ret ?_ | refine blockQ_normal ?_ | refine blockQ_exit ?_ | refine blockQ_other rfl ?_ | refine noGoto_ret ?_ | refine noGoto_exit ?_ | refine noGoto_normal ?_))
        refine awp_seq ?_
        obtain ⟨o54, h1, h0⟩ := bd_cut h0
        refine awp_cutN (fun s' => s'.le ⟨[(4, .p (eB o54))], []⟩) ?_ ?_
        · intro s' hle
          (repeat (first | refine thenQ_exit ?_ | refine thenQ_ret ?_ | refine exQ_hit ?_ | refine exQ_other rfl ?_ | refine exQ_ret ?_ | refine exQ_normal ?_ | refine blockQ_ret ?_ | refine blockQ_normal ?_ | refine blockQ_exit ?_ | refine blockQ_other rfl ?_ | refine noGoto_ret ?_ | refine noGoto_exit ?_ | refine noGoto_normal ?_))
          refine awp_weaken hle ?_
          refine awp_ret ?_
          (repeat (first | refine thenQ_exit ?_ | refine thenQ_ret ?_ | refine exQ_hit ?_ | refine exQ_other rfl ?_ | refine exQ_ret ?_ | refine exQ_normal ?_ | refine blockQ_ret ?_ | refine blockQ_normal ?_ | refine blockQ_exit ?_ | refine blockQ_other rfl ?_ | refine noGoto_ret ?_ | refine noGoto_exit ?_ | refine noGoto_normal ?_))
          have e0 := Option.some.inj h0
          subst e0
          refine ret_mk rfl ?_
          exact AV.sub_refl _
        · skip
          refine awp_reg ?_
          refine rwpL_op rfl ?_
          refine ok_move rfl rfl rfl rfl ?_
          refine rwpL_op rfl ?_
          refine ok_move rfl rfl rfl rfl ?_
          obtain ⟨r39, e40, h1⟩ := bd_cut h1
          refine rwpL_op rfl ?_
          refine ok_callP (glob_Any_ok _ patterns_0 s_1 _ e40) rfl rfl rfl rfl ⟨AV.sub_refl _, AV.sub_refl _, trivial⟩ Try.call15 rfl ?_
          refine rwpL_op rfl ?_
          refine ok_move rfl rfl rfl rfl ?_
          refine rwpL_op rfl ?_
          refine ok_move rfl rfl rfl rfl ?_
          obtain ⟨r41, e42, h1⟩ := bd_cut h1
          refine rwpL_op rfl ?_
          refine ok_callP (ref05_Any_ok _ patterns_0 s_1 _ e42) rfl rfl rfl rfl ⟨AV.sub_refl _, AV.sub_refl _, trivial⟩ Try.call16 rfl ?_
          refine rwpL_op rfl ?_
          refine ok_cmpB rfl rfl rfl rfl rfl rfl rfl rfl ?_
          refine rwpL_op rfl ?_
          refine ok_move rfl rfl rfl rfl ?_
          refine gd_B rfl rfl rfl (fun c43 => ?_) (fun c43 => ?_)
          · replace h1 := if_t c43 h1
            refine gd_tt rfl rfl rfl (c43) ?_
            refine ok_callP (awake_ok) rfl rfl rfl rfl trivial Try.call8 rfl ?_
            refine rwpL_op rfl ?_
            refine ok_pick_true rfl rfl rfl rfl (c43) rfl ?_
            refine rwpL_op rfl ?_
            refine ok_assign rfl rfl rfl rfl ?_
            refine rwpL_nil ?_
            (repeat (first | refine thenQ_exit ?_ | refine thenQ_ret ?_ | refine exQ_hit ?_ | refine exQ_other rfl ?_ | refine exQ_ret ?_ | refine exQ_normal ?_ | refine blockQ_ret ?_ | refine blockQ_normal ?_ | refine blockQ_exit ?_ | refine blockQ_other rfl ?_ | refine noGoto_ret ?_ | refine noGoto_exit ?_ | refine noGoto_normal ?_))
            have e1 := Option.some.inj h1
            subst e1
            exact le_mk ⟨⟨_, rfl, AV.sub_refl _⟩, trivial⟩ trivial
          · replace h1 := if_bf c43 h1
            refine gd_tf rfl rfl rfl (c43) rfl rfl ?_
            refine rwpL_op rfl ?_
            refine ok_pick_false rfl rfl rfl rfl (c43) rfl ?_
            refine rwpL_op rfl ?_
            refine ok_assign rfl rfl rfl rfl ?_
            refine rwpL_nil ?_
            (repeat (first | refine thenQ_exit ?_ | refine thenQ_ret ?_ | refine exQ_hit ?_ | refine exQ_other rfl ?_ | refine exQ_ret ?_ | refine exQ_normal ?_ | refine blockQ_ret ?_ | refine blockQ_normal ?_ | refine blockQ_exit ?_ | refine blockQ_other rfl ?_ | refine noGoto_ret ?_ | refine noGoto_exit ?_ | refine noGoto_normal ?_))
            have e1 := Option.some.inj h1
            subst e1
            exact le_mk ⟨⟨_, rfl, AV.sub_refl _⟩, trivial⟩ trivial
      · skip
        refine awp_loopF (fun q56 => ⟨[(0, .p (eL eS patterns_0)), (1, .p (eS s_1)), (5, .p (eI q56))], []⟩) (fun m (q56 : Int) => law05_GlobMatches_l1 n patterns_0 s_1 m q56) (fun _ => rfl) 0 h1 (le_mk ⟨⟨_, rfl, AV.sub_refl _⟩, ⟨_, rfl, AV.sub_refl _⟩, ⟨_, rfl, AV.sub_refl _⟩, trivial⟩ trivial) ?_
        rintro m i21 h1
        replace h1 : law05_GlobMatches_l1 n patterns_0 s_1 (m + 1) i21 = some o52 := h1
        rw [law05_GlobMatches_l1] at h1
        refine awp_seq ?_
        refine awp_seq ?_
        refine awp_reg ?_
        refine rwpL_op rfl ?_
        refine ok_move rfl rfl rfl rfl ?_
        refine rwpL_op rfl ?_
        refine ok_move rfl rfl rfl rfl ?_
        refine rwpL_op rfl ?_
        refine op_lenL (f := eS) (l := patterns_0) rfl rfl rfl rfl rfl rfl rfl ?_
        refine rwpL_op rfl ?_
        refine ok_cmp rfl rfl rfl rfl rfl rfl ?_
        refine rwpL_nil ?_
        refine wp_ifD rfl (fun c22 => ?_) (fun c22 => ?_)
        · replace h1 := if_t c22 h1
          refine awp_skip ?_
          refine awp_seq ?_
          refine awp_block ?_
          refine awp_seq ?_
          obtain ⟨o57, h2, h1⟩ := bd_cut h1
          refine awp_cutN (fun s' => s'.le ⟨[(0, .p (eL eS patterns_0)), (1, .p (eS s_1)), (5, .p (eI i21)), (41, .p (eB o57))], []⟩) ?_ ?_
          · intro s' hle
            (repeat (first | refine thenQ_exit ?_ | refine thenQ_ret ?_ | refine exQ_hit ?_ | refine exQ_other rfl ?_ | refine exQ_ret ?_ | refine exQ_normal ?_ | refine blockQ_ret ?_ | refine blockQ_normal ?_ | refine blockQ_exit ?_ | refine blockQ_other rfl ?_ | refine noGoto_ret ?_ | refine noGoto_exit ?_ | refine noGoto_normal ?_))
            refine awp_weaken hle ?_
            refine wp_if rfl (fun c33 => ?_) (fun c33 => ?_)
            · replace h1 := if_t c33 h1
              refine awp_seq ?_
              obtain ⟨o59, h2, h1⟩ := bd_cut h1
              refine awp_cutN (fun s' => s'.le ⟨[(4, .p (eB o59))], []⟩) ?_ ?_
              · intro s' hle
                (repeat (first | refine thenQ_exit ?_ | refine thenQ_ret ?_ | refine exQ_hit ?_ | refine exQ_other rfl ?_ | refine exQ_ret ?_ | refine exQ_normal ?_ | refine blockQ_ret ?_ | refine blockQ_normal ?_ | refine blockQ_exit ?_ | refine blockQ_other rfl ?_ | refine noGoto_ret ?_ | refine noGoto_exit ?_ | refine noGoto_normal ?_))
                refine awp_weaken hle ?_
                refine awp_ret ?_
                (repeat (first | refine thenQ_exit ?_ | refine thenQ_ret ?_ | refine exQ_hit ?_ | refine exQ_other rfl ?_ | refine exQ_ret ?_ | refine exQ_normal ?_ | refine blockQ_ret ?_ | refine blockQ_normal ?_ | refine blockQ_exit ?_ | refine blockQ_other rfl ?_ | refine noGoto_ret ?_ | refine noGoto_exit ?_ | refine noGoto_normal ?_))
                have e1 := Option.some.inj h1
                have e0 := hR0 _ e1.symm
                subst e0
                refine ret_mk rfl ?_
                exact AV.sub_refl _
              · skip
                refine awp_reg ?_
                refine rwpL_op rfl ?_
                refine ok_move rfl rfl rfl rfl ?_
                refine rwpL_op rfl ?_
                refine ok_move rfl rfl rfl rfl ?_
                obtain ⟨h34, h2⟩ := ck_cut h2
                refine rwpL_op rfl ?_
                refine op_at (f := eS) (l := patterns_0) (fun x => [eS x]) rfl rfl rfl rfl rfl rfl rfl rfl rfl h34 (fun _ => rfl) (fun _ => rfl) ?_
                refine rwpL_op rfl ?_
                refine ok_loadR1 rfl rfl rfl rfl rfl rfl rfl ?_
                refine rwpL_op rfl ?_
                refine ok_lenS rfl rfl rfl rfl rfl rfl ?_
                refine rwpL_op rfl ?_
                refine ok_cmp rfl rfl rfl rfl rfl rfl ?_
                refine rwpL_op rfl ?_
                refine ok_move rfl rfl rfl rfl ?_
                refine gd_D rfl rfl rfl (fun c35 => ?_) (fun c35 => ?_)
                · replace h2 := if_t c35 h2
                  refine gd_tt rfl rfl rfl (decide_eq_true c35) ?_
                  refine ok_callP (awake_ok) rfl rfl rfl rfl trivial Try.call8 rfl ?_
                  refine rwpL_op rfl ?_
                  refine ok_pick_true rfl rfl rfl rfl (decide_eq_true c35) rfl ?_
                  refine rwpL_op rfl ?_
                  refine ok_assign rfl rfl rfl rfl ?_
                  refine rwpL_nil ?_
                  (repeat (first | refine thenQ_exit ?_ | refine thenQ_ret ?_ | refine exQ_hit ?_ | refine exQ_other rfl ?_ | refine exQ_ret ?_ | refine exQ_normal ?_ | refine blockQ_ret ?_ | refine blockQ_normal ?_ | refine blockQ_exit ?_ | refine blockQ_other rfl ?_ | refine noGoto_ret ?_ | refine noGoto_exit ?_ | refine noGoto_normal ?_))
                  have e2 := Option.some.inj h2
                  subst e2
                  exact le_mk ⟨⟨_, rfl, AV.sub_refl _⟩, trivial⟩ trivial
                · replace h2 := if_f c35 h2
                  refine gd_tf rfl rfl rfl (decide_eq_false c35) rfl rfl ?_
                  refine rwpL_op rfl ?_
                  refine ok_pick_false rfl rfl rfl rfl (decide_eq_false c35) rfl ?_
                  refine rwpL_op rfl ?_
                  refine ok_assign rfl rfl rfl rfl ?_
                  refine rwpL_nil ?_
                  (repeat (first | refine thenQ_exit ?_ | refine thenQ_ret ?_ | refine exQ_hit ?_ | refine exQ_other rfl ?_ | refine exQ_ret ?_ | refine exQ_normal ?_ | refine blockQ_ret ?_ | refine blockQ_normal ?_ | refine blockQ_exit ?_ | refine blockQ_other rfl ?_ | refine noGoto_ret ?_ | refine noGoto_exit ?_ | refine noGoto_normal ?_))
                  have e2 := Option.some.inj h2
                  subst e2
                  exact le_mk ⟨⟨_, rfl, AV.sub_refl _⟩, trivial⟩ trivial
            · replace h1 := if_bf c33 h1
              refine awp_skip ?_
              (repeat (first | refine thenQ_exit ?_ | refine thenQ_ret ?_ | refine exQ_hit ?_ | refine exQ_other rfl ?_ | refine exQ_ret ?_ | refine exQ_normal ?_ | refine blockQ_ret ?_ | refine blockQ_normal ?_ | refine blockQ_exit ?_ | refine blockQ_other rfl ?_ | refine noGoto_ret ?_ | refine noGoto_exit ?_ | refine noGoto_normal ?_))
              refine awp_reg ?_
              refine rwpL_op rfl ?_
              refine ok_move rfl rfl rfl rfl ?_
              obtain ⟨h37, h1⟩ := ck_cut h1
              refine rwpL_op rfl ?_
              refine ok_ar rfl rfl rfl rfl rfl rfl h37 ?_
              refine rwpL_op rfl ?_
              refine ok_assign rfl rfl rfl rfl ?_
              refine rwpL_nil ?_
              (repeat (first | refine thenQ_exit ?_ | refine thenQ_ret ?_ | refine exQ_hit ?_ | refine exQ_other rfl ?_ | refine exQ_ret ?_ | refine exQ_normal ?_ | refine blockQ_ret ?_ | refine blockQ_normal ?_ | refine blockQ_exit ?_ | refine blockQ_other rfl ?_ | refine noGoto_ret ?_ | refine noGoto_exit ?_ | refine noGoto_normal ?_))
              exact ⟨(i21 + 1), h1, le_mk ⟨⟨_, rfl, AV.sub_refl _⟩, ⟨_, rfl, AV.sub_refl _⟩, ⟨_, rfl, AV.sub_refl _⟩, trivial⟩ trivial⟩
          · skip
            refine awp_byD (p := 1100 < ((lat patterns_0 i21).length : Int)) (fun c24 => ?_) (fun c24 => ?_)
            · replace h2 := if_t c24 h2
              refine awp_drawQ [(0, .p (eL eS patterns_0)), (1, .p (eS s_1)), (5, .p (eI i21))] rfl ⟨rfl, rfl, rfl, trivial⟩ rfl ?_
              refine dq_cons (.p (eL eS patterns_0)) [(0, .p (eL eS patterns_0))] ⟨.inl rfl, trivial⟩ (fun sl hsl K hK => one_op rfl (ok_move rfl rfl rfl (hsl _ _ rfl) hK)) rfl rfl rfl ?_
              refine dq_cons (.p (eI i21)) [(5, .p (eI i21))] ⟨.inl rfl, trivial⟩ (fun sl hsl K hK => one_op rfl (ok_move rfl rfl rfl (hsl _ _ rfl) hK)) rfl rfl rfl ?_
              obtain ⟨h25, h2⟩ := ck_cut h2
              refine dq_cons (.rptr [eS (lat patterns_0 i21)]) [(21, .p (eL eS patterns_0)), (22, .p (eI i21))] ⟨.inr ⟨0, rfl, rfl⟩, .inr ⟨1, rfl, rfl⟩, trivial⟩ (fun sl hsl K hK => one_op rfl (op_at (f := eS) (l := patterns_0) (fun x => [eS x]) rfl rfl rfl rfl rfl rfl (hsl _ _ rfl) rfl (hsl _ _ rfl) h25 (fun _ => rfl) (fun _ => rfl) hK)) rfl rfl rfl ?_
              refine dq_cons (.p (eS (lat patterns_0 i21))) [(23, .rptr [eS (lat patterns_0 i21)])] ⟨.inr ⟨2, rfl, rfl⟩, trivial⟩ (fun sl hsl K hK => one_op rfl (ok_loadR1 rfl rfl rfl rfl rfl (hsl _ _ rfl) rfl hK)) rfl rfl rfl ?_
              refine dq_cons (.p (eI ((lat patterns_0 i21).length : Int))) [(24, .p (eS (lat patterns_0 i21)))] ⟨.inr ⟨3, rfl, rfl⟩, trivial⟩ (fun sl hsl K hK => one_op rfl (ok_lenS rfl rfl rfl rfl rfl (hsl _ _ rfl) hK)) rfl rfl rfl ?_
              refine dq_cons (.p (eB (decide (1100 < ((lat patterns_0 i21).length : Int))))) [(25, .p (eI ((lat patterns_0 i21).length : Int)))] ⟨.inr ⟨4, rfl, rfl⟩, trivial⟩ (fun sl hsl K hK => one_op rfl (ok_cmp rfl rfl rfl (hsl _ _ rfl) rfl rfl hK)) rfl rfl rfl ?_
              refine dq_cons (.p (eB (decide (1100 < ((lat patterns_0 i21).length : Int))))) [(26, .p (eB (decide (1100 < ((lat patterns_0 i21).length : Int)))))] ⟨.inr ⟨5, rfl, rfl⟩, trivial⟩ (fun sl hsl K hK => one_op rfl (ok_move rfl rfl rfl (hsl _ _ rfl) hK)) rfl rfl rfl ?_
              refine dq_cons (.p (.val Go.undef)) [(0, .p (eL eS patterns_0)), (27, .p (eB (decide (1100 < ((lat patterns_0 i21).length : Int)))))] ⟨.inl rfl, .inr ⟨6, rfl, rfl⟩, trivial⟩ (fun sl hsl K hK => one_no rfl rfl (hsl _ _ rfl) (decide_eq_true c24) rfl rfl hK) rfl rfl rfl ?_
              refine dq_cons (.p (.val Go.undef)) [(5, .p (eI i21)), (27, .p (eB (decide (1100 < ((lat patterns_0 i21).length : Int)))))] ⟨.inl rfl, .inr ⟨6, rfl, rfl⟩, trivial⟩ (fun sl hsl K hK => one_no rfl rfl (hsl _ _ rfl) (decide_eq_true c24) rfl rfl hK) rfl rfl rfl ?_
              refine dq_cons (.p (.val Go.undef)) [(27, .p (eB (decide (1100 < ((lat patterns_0 i21).length : Int))))), (28, .p (.val (.tuple #[]))), (29, .p (.val (.tuple #[])))] ⟨.inr ⟨6, rfl, rfl⟩, .inr ⟨7, rfl, rfl⟩, .inr ⟨8, rfl, rfl⟩, trivial⟩ (fun sl hsl K hK => one_no rfl rfl (hsl _ _ rfl) (decide_eq_true c24) rfl rfl hK) rfl rfl rfl ?_
              refine dq_cons (.p (.val Go.undef)) [(27, .p (eB (decide (1100 < ((lat patterns_0 i21).length : Int))))), (30, .p (.val (.tuple #[])))] ⟨.inr ⟨6, rfl, rfl⟩, .inr ⟨9, rfl, rfl⟩, trivial⟩ (fun sl hsl K hK => one_no rfl rfl (hsl _ _ rfl) (decide_eq_true c24) rfl rfl hK) rfl rfl rfl ?_
              refine dq_cons (.p (.val Go.undef)) [(1, .p (eS s_1)), (27, .p (eB (decide (1100 < ((lat patterns_0 i21).length : Int)))))] ⟨.inl rfl, .inr ⟨6, rfl, rfl⟩, trivial⟩ (fun sl hsl K hK => one_no rfl rfl (hsl _ _ rfl) (decide_eq_true c24) rfl rfl hK) rfl rfl rfl ?_
              refine dq_cons (.p (.val Go.undef)) [(27, .p (eB (decide (1100 < ((lat patterns_0 i21).length : Int))))), (31, .p (.val (.tuple #[]))), (32, .p (.val (.tuple #[])))] ⟨.inr ⟨6, rfl, rfl⟩, .inr ⟨10, rfl, rfl⟩, .inr ⟨11, rfl, rfl⟩, trivial⟩ (fun sl hsl K hK => one_no rfl rfl (hsl _ _ rfl) (decide_eq_true c24) rfl rfl hK) rfl rfl rfl ?_
              refine dq_cons (.p (.val Go.undef)) [(0, .p (eL eS patterns_0)), (27, .p (eB (decide (1100 < ((lat patterns_0 i21).length : Int)))))] ⟨.inl rfl, .inr ⟨6, rfl, rfl⟩, trivial⟩ (fun sl hsl K hK => one_no rfl rfl (hsl _ _ rfl) (decide_eq_true c24) rfl rfl hK) rfl rfl rfl ?_
              refine dq_cons (.p (.val Go.undef)) [(5, .p (eI i21)), (27, .p (eB (decide (1100 < ((lat patterns_0 i21).length : Int)))))] ⟨.inl rfl, .inr ⟨6, rfl, rfl⟩, trivial⟩ (fun sl hsl K hK => one_no rfl rfl (hsl _ _ rfl) (decide_eq_true c24) rfl rfl hK) rfl rfl rfl ?_
              refine dq_cons (.p (.val Go.undef)) [(27, .p (eB (decide (1100 < ((lat patterns_0 i21).length : Int))))), (34, .p (.val (.tuple #[]))), (35, .p (.val (.tuple #[])))] ⟨.inr ⟨6, rfl, rfl⟩, .inr ⟨13, rfl, rfl⟩, .inr ⟨14, rfl, rfl⟩, trivial⟩ (fun sl hsl K hK => one_no rfl rfl (hsl _ _ rfl) (decide_eq_true c24) rfl rfl hK) rfl rfl rfl ?_
              refine dq_cons (.p (.val Go.undef)) [(27, .p (eB (decide (1100 < ((lat patterns_0 i21).length : Int))))), (36, .p (.val (.tuple #[])))] ⟨.inr ⟨6, rfl, rfl⟩, .inr ⟨15, rfl, rfl⟩, trivial⟩ (fun sl hsl K hK => one_no rfl rfl (hsl _ _ rfl) (decide_eq_true c24) rfl rfl hK) rfl rfl rfl ?_
              refine dq_cons (.p (.val Go.undef)) [(1, .p (eS s_1)), (27, .p (eB (decide (1100 < ((lat patterns_0 i21).length : Int)))))] ⟨.inl rfl, .inr ⟨6, rfl, rfl⟩, trivial⟩ (fun sl hsl K hK => one_no rfl rfl (hsl _ _ rfl) (decide_eq_true c24) rfl rfl hK) rfl rfl rfl ?_
              refine dq_cons (.p (.val Go.undef)) [(27, .p (eB (decide (1100 < ((lat patterns_0 i21).length : Int))))), (37, .p (.val (.tuple #[]))), (38, .p (.val (.tuple #[])))] ⟨.inr ⟨6, rfl, rfl⟩, .inr ⟨16, rfl, rfl⟩, .inr ⟨17, rfl, rfl⟩, trivial⟩ (fun sl hsl K hK => one_no rfl rfl (hsl _ _ rfl) (decide_eq_true c24) rfl rfl hK) rfl rfl rfl ?_
              refine dq_cons (.p (.val Go.undef)) [(27, .p (eB (decide (1100 < ((lat patterns_0 i21).length : Int))))), (33, .p (.val (.tuple #[]))), (39, .p (.val (.tuple #[])))] ⟨.inr ⟨6, rfl, rfl⟩, .inr ⟨12, rfl, rfl⟩, .inr ⟨18, rfl, rfl⟩, trivial⟩ (fun sl hsl K hK => one_no rfl rfl (hsl _ _ rfl) (decide_eq_true c24) rfl rfl hK) rfl rfl rfl ?_
              refine dq_cons (.p (eB true)) [(27, .p (eB (decide (1100 < ((lat patterns_0 i21).length : Int))))), (40, .p (.val (.tuple #[])))] ⟨.inr ⟨6, rfl, rfl⟩, .inr ⟨19, rfl, rfl⟩, trivial⟩ (fun sl hsl K hK => one_op rfl (ok_pick_true rfl rfl rfl (hsl _ _ rfl) (decide_eq_true c24) rfl hK)) rfl rfl rfl ?_
              refine dq_nil ?_
              (repeat (first | refine thenQ_exit ?_ | refine thenQ_ret ?_ | refine exQ_hit ?_ | refine exQ_other rfl ?_ | refine exQ_ret ?_ | refine exQ_normal ?_ | refine blockQ_ret ?_ | refine blockQ_normal ?_ | refine blockQ_exit ?_ | refine blockQ_other rfl ?_ | refine noGoto_ret ?_ | refine noGoto_exit ?_ | refine noGoto_normal ?_))
              have e2 := Option.some.inj h2
              subst e2
              exact le_mk ⟨⟨_, rfl, AV.sub_refl _⟩, ⟨_, rfl, AV.sub_refl _⟩, ⟨_, rfl, AV.sub_refl _⟩, ⟨_, rfl, AV.sub_refl _⟩, trivial⟩ trivial
            · replace h2 := if_f c24 h2
              refine awp_drawQ [(0, .p (eL eS patterns_0)), (1, .p (eS s_1)), (5, .p (eI i21))] rfl ⟨rfl, rfl, rfl, trivial⟩ rfl ?_
              refine dq_cons (.p (eL eS patterns_0)) [(0, .p (eL eS patterns_0))] ⟨.inl rfl, trivial⟩ (fun sl hsl K hK => one_op rfl (ok_move rfl rfl rfl (hsl _ _ rfl) hK)) rfl rfl rfl ?_
              refine dq_cons (.p (eI i21)) [(5, .p (eI i21))] ⟨.inl rfl, trivial⟩ (fun sl hsl K hK => one_op rfl (ok_move rfl rfl rfl (hsl _ _ rfl) hK)) rfl rfl rfl ?_
              obtain ⟨h26, h2⟩ := ck_cut h2
              refine dq_cons (.rptr [eS (lat patterns_0 i21)]) [(21, .p (eL eS patterns_0)), (22, .p (eI i21))] ⟨.inr ⟨0, rfl, rfl⟩, .inr ⟨1, rfl, rfl⟩, trivial⟩ (fun sl hsl K hK => one_op rfl (op_at (f := eS) (l := patterns_0) (fun x => [eS x]) rfl rfl rfl rfl rfl rfl (hsl _ _ rfl) rfl (hsl _ _ rfl) h26 (fun _ => rfl) (fun _ => rfl) hK)) rfl rfl rfl ?_
              refine dq_cons (.p (eS (lat patterns_0 i21))) [(23, .rptr [eS (lat patterns_0 i21)])] ⟨.inr ⟨2, rfl, rfl⟩, trivial⟩ (fun sl hsl K hK => one_op rfl (ok_loadR1 rfl rfl rfl rfl rfl (hsl _ _ rfl) rfl hK)) rfl rfl rfl ?_
              refine dq_cons (.p (eI ((lat patterns_0 i21).length : Int))) [(24, .p (eS (lat patterns_0 i21)))] ⟨.inr ⟨3, rfl, rfl⟩, trivial⟩ (fun sl hsl K hK => one_op rfl (ok_lenS rfl rfl rfl rfl rfl (hsl _ _ rfl) hK)) rfl rfl rfl ?_
              refine dq_cons (.p (eB (decide (1100 < ((lat patterns_0 i21).length : Int))))) [(25, .p (eI ((lat patterns_0 i21).length : Int)))] ⟨.inr ⟨4, rfl, rfl⟩, trivial⟩ (fun sl hsl K hK => one_op rfl (ok_cmp rfl rfl rfl (hsl _ _ rfl) rfl rfl hK)) rfl rfl rfl ?_
              refine dq_cons (.p (eB (decide (1100 < ((lat patterns_0 i21).length : Int))))) [(26, .p (eB (decide (1100 < ((lat patterns_0 i21).length : Int)))))] ⟨.inr ⟨5, rfl, rfl⟩, trivial⟩ (fun sl hsl K hK => one_op rfl (ok_move rfl rfl rfl (hsl _ _ rfl) hK)) rfl rfl rfl ?_
              refine dq_cons (.p (eL eS patterns_0)) [(0, .p (eL eS patterns_0)), (27, .p (eB (decide (1100 < ((lat patterns_0 i21).length : Int)))))] ⟨.inl rfl, .inr ⟨6, rfl, rfl⟩, trivial⟩ (fun sl hsl K hK => one_yes (ok_move rfl rfl rfl (hsl _ _ rfl) hK) rfl rfl (hsl _ _ rfl) (decide_eq_false c24)) rfl rfl rfl ?_
              refine dq_cons (.p (eI i21)) [(5, .p (eI i21)), (27, .p (eB (decide (1100 < ((lat patterns_0 i21).length : Int)))))] ⟨.inl rfl, .inr ⟨6, rfl, rfl⟩, trivial⟩ (fun sl hsl K hK => one_yes (ok_move rfl rfl rfl (hsl _ _ rfl) hK) rfl rfl (hsl _ _ rfl) (decide_eq_false c24)) rfl rfl rfl ?_
              obtain ⟨h27, h2⟩ := ck_cut h2
              refine dq_cons (.rptr [eS (lat patterns_0 i21)]) [(27, .p (eB (decide (1100 < ((lat patterns_0 i21).length : Int))))), (28, .p (eL eS patterns_0)), (29, .p (eI i21))] ⟨.inr ⟨6, rfl, rfl⟩, .inr ⟨7, rfl, rfl⟩, .inr ⟨8, rfl, rfl⟩, trivial⟩ (fun sl hsl K hK => one_yes (op_at (f := eS) (l := patterns_0) (fun x => [eS x]) rfl rfl rfl rfl rfl rfl (hsl _ _ rfl) rfl (hsl _ _ rfl) h27 (fun _ => rfl) (fun _ => rfl) hK) rfl rfl (hsl _ _ rfl) (decide_eq_false c24)) rfl rfl rfl ?_
              refine dq_cons (.p (eS (lat patterns_0 i21))) [(27, .p (eB (decide (1100 < ((lat patterns_0 i21).length : Int))))), (30, .rptr [eS (lat patterns_0 i21)])] ⟨.inr ⟨6, rfl, rfl⟩, .inr ⟨9, rfl, rfl⟩, trivial⟩ (fun sl hsl K hK => one_yes (ok_loadR1 rfl rfl rfl rfl rfl (hsl _ _ rfl) rfl hK) rfl rfl (hsl _ _ rfl) (decide_eq_false c24)) rfl rfl rfl ?_
              refine dq_cons (.p (eS s_1)) [(1, .p (eS s_1)), (27, .p (eB (decide (1100 < ((lat patterns_0 i21).length : Int)))))] ⟨.inl rfl, .inr ⟨6, rfl, rfl⟩, trivial⟩ (fun sl hsl K hK => one_yes (ok_move rfl rfl rfl (hsl _ _ rfl) hK) rfl rfl (hsl _ _ rfl) (decide_eq_false c24)) rfl rfl rfl ?_
              obtain ⟨h28, h2⟩ := ck_cut h2
              refine dq_cons _ [(27, .p (eB (decide (1100 < ((lat patterns_0 i21).length : Int))))), (31, .p (eS (lat patterns_0 i21))), (32, .p (eS s_1))] ⟨.inr ⟨6, rfl, rfl⟩, .inr ⟨10, rfl, rfl⟩, .inr ⟨11, rfl, rfl⟩, trivial⟩ (fun sl hsl K hK => one_yes (ok_callP (match_ok (lat patterns_0 i21) s_1 h28.1 h28.2) rfl rfl rfl (args_cons (hsl _ _ rfl) (args_cons (hsl _ _ rfl) args_nil)) ⟨AV.sub_refl _, AV.sub_refl _, trivial⟩ Try.call13 rfl hK) rfl rfl (hsl _ _ rfl) (decide_eq_false c24)) rfl rfl rfl ?_
              refine dq_cons (.p (eL eS patterns_0)) [(0, .p (eL eS patterns_0)), (27, .p (eB (decide (1100 < ((lat patterns_0 i21).length : Int)))))] ⟨.inl rfl, .inr ⟨6, rfl, rfl⟩, trivial⟩ (fun sl hsl K hK => one_yes (ok_move rfl rfl rfl (hsl _ _ rfl) hK) rfl rfl (hsl _ _ rfl) (decide_eq_false c24)) rfl rfl rfl ?_
              refine dq_cons (.p (eI i21)) [(5, .p (eI i21)), (27, .p (eB (decide (1100 < ((lat patterns_0 i21).length : Int)))))] ⟨.inl rfl, .inr ⟨6, rfl, rfl⟩, trivial⟩ (fun sl hsl K hK => one_yes (ok_move rfl rfl rfl (hsl _ _ rfl) hK) rfl rfl (hsl _ _ rfl) (decide_eq_false c24)) rfl rfl rfl ?_
              obtain ⟨h29, h2⟩ := ck_cut h2
              refine dq_cons (.rptr [eS (lat patterns_0 i21)]) [(27, .p (eB (decide (1100 < ((lat patterns_0 i21).length : Int))))), (34, .p (eL eS patterns_0)), (35, .p (eI i21))] ⟨.inr ⟨6, rfl, rfl⟩, .inr ⟨13, rfl, rfl⟩, .inr ⟨14, rfl, rfl⟩, trivial⟩ (fun sl hsl K hK => one_yes (op_at (f := eS) (l := patterns_0) (fun x => [eS x]) rfl rfl rfl rfl rfl rfl (hsl _ _ rfl) rfl (hsl _ _ rfl) h29 (fun _ => rfl) (fun _ => rfl) hK) rfl rfl (hsl _ _ rfl) (decide_eq_false c24)) rfl rfl rfl ?_
              refine dq_cons (.p (eS (lat patterns_0 i21))) [(27, .p (eB (decide (1100 < ((lat patterns_0 i21).length : Int))))), (36, .rptr [eS (lat patterns_0 i21)])] ⟨.inr ⟨6, rfl, rfl⟩, .inr ⟨15, rfl, rfl⟩, trivial⟩ (fun sl hsl K hK => one_yes (ok_loadR1 rfl rfl rfl rfl rfl (hsl _ _ rfl) rfl hK) rfl rfl (hsl _ _ rfl) (decide_eq_false c24)) rfl rfl rfl ?_
              refine dq_cons (.p (eS s_1)) [(1, .p (eS s_1)), (27, .p (eB (decide (1100 < ((lat patterns_0 i21).length : Int)))))] ⟨.inl rfl, .inr ⟨6, rfl, rfl⟩, trivial⟩ (fun sl hsl K hK => one_yes (ok_move rfl rfl rfl (hsl _ _ rfl) hK) rfl rfl (hsl _ _ rfl) (decide_eq_false c24)) rfl rfl rfl ?_
              obtain ⟨r30, e31, h2⟩ := bd_cut h2
              refine dq_cons (.p (eB r30)) [(27, .p (eB (decide (1100 < ((lat patterns_0 i21).length : Int))))), (37, .p (eS (lat patterns_0 i21))), (38, .p (eS s_1))] ⟨.inr ⟨6, rfl, rfl⟩, .inr ⟨16, rfl, rfl⟩, .inr ⟨17, rfl, rfl⟩, trivial⟩ (fun sl hsl K hK => one_yes (ok_callP (ref05_Match_ok _ (lat patterns_0 i21) s_1 _ e31) rfl rfl rfl (args_cons (hsl _ _ rfl) (args_cons (hsl _ _ rfl) args_nil)) ⟨AV.sub_refl _, AV.sub_refl _, trivial⟩ Try.call14 rfl hK) rfl rfl (hsl _ _ rfl) (decide_eq_false c24)) rfl rfl rfl ?_
              refine dq_cons (.p (eB (!((matchL (lat patterns_0 i21) s_1) == r30)))) [(27, .p (eB (decide (1100 < ((lat patterns_0 i21).length : Int))))), (33, .p (eB (matchL (lat patterns_0 i21) s_1))), (39, .p (eB r30))] ⟨.inr ⟨6, rfl, rfl⟩, .inr ⟨12, rfl, rfl⟩, .inr ⟨18, rfl, rfl⟩, trivial⟩ (fun sl hsl K hK => one_yes (ok_cmpB rfl rfl rfl rfl rfl (hsl _ _ rfl) (hsl _ _ rfl) rfl hK) rfl rfl (hsl _ _ rfl) (decide_eq_false c24)) rfl rfl rfl ?_
              refine dq_cons (.p (eB (!((matchL (lat patterns_0 i21) s_1) == r30)))) [(27, .p (eB (decide (1100 < ((lat patterns_0 i21).length : Int))))), (40, .p (eB (!((matchL (lat patterns_0 i21) s_1) == r30))))] ⟨.inr ⟨6, rfl, rfl⟩, .inr ⟨19, rfl, rfl⟩, trivial⟩ (fun sl hsl K hK => one_op rfl (ok_pick_false rfl rfl rfl (hsl _ _ rfl) (decide_eq_false c24) (hsl _ _ rfl) hK)) rfl rfl rfl ?_
              refine dq_nil ?_
              (repeat (first | refine thenQ_exit ?_ | refine thenQ_ret ?_ | refine exQ_hit ?_ | refine exQ_other rfl ?_ | refine exQ_ret ?_ | refine exQ_normal ?_ | refine blockQ_ret ?_ | refine blockQ_normal ?_ | refine blockQ_exit ?_ | refine blockQ_other rfl ?_ | refine noGoto_ret ?_ | refine noGoto_exit ?_ | refine noGoto_normal ?_))
              have e2 := Option.some.inj h2
              subst e2
              exact le_mk ⟨⟨_, rfl, AV.sub_refl _⟩, ⟨_, rfl, AV.sub_refl _⟩, ⟨_, rfl, AV.sub_refl _⟩, ⟨_, rfl, AV.sub_refl _⟩, trivial⟩ trivial
        · replace h1 := if_f c22 h1
          refine awp_exit ?_
          (repeat (first | refine thenQ_exit ?_ | refine thenQ_ret ?_ | refine exQ_hit ?_ | refine exQ_other rfl ?_ | refine exQ_ret ?_ | refine exQ_normal ?_ | refine blockQ_ret ?_ | refine blockQ_normal ?_ | refine blockQ_exit ?_ | refine blockQ_other rfl ?_ | refine noGoto_ret ?_ | refine noGoto_exit ?_ | refine noGoto_normal ?_))
          have e1 := Option.some.inj h1
          exact ⟨_, e1.symm, le_mk ⟨⟨_, rfl, AV.sub_refl _⟩, ⟨_, rfl, AV.sub_refl _⟩, trivial⟩ trivial⟩
  · skip
    refine awp_reg ?_
    refine rwpL_op rfl ?_
    refine ok_move rfl rfl rfl rfl ?_
    refine rwpL_op rfl ?_
    refine op_lenL (f := eS) (l := patterns_0) rfl rfl rfl rfl rfl rfl rfl ?_
    refine rwpL_op rfl ?_
    refine ok_cmp rfl rfl rfl rfl rfl rfl ?_
    refine rwpL_op rfl ?_
    refine ok_move rfl rfl rfl rfl ?_
    refine gd_D rfl rfl rfl (fun c1 => ?_) (fun c1 => ?_)
    · replace h1 := if_t c1 h1
      refine gd_ft rfl rfl rfl (decide_eq_true c1) rfl rfl ?_
      refine gd_ft rfl rfl rfl (decide_eq_true c1) rfl rfl ?_
      refine gd_ft rfl rfl rfl (decide_eq_true c1) rfl rfl ?_
      refine rwpL_op rfl ?_
      refine ok_pick_true rfl rfl rfl rfl (decide_eq_true c1) rfl ?_
      refine rwpL_nil ?_
      (repeat (first | refine thenQ_exit ?_ | refine thenQ_ret ?_ | refine exQ_hit ?_ | refine exQ_other rfl ?_ | refine exQ_ret ?_ | refine exQ_normal ?_ | refine blockQ_ret ?_ | refine blockQ_normal ?_ | refine blockQ_exit ?_ | refine blockQ_other rfl ?_ | refine noGoto_ret ?_ | refine noGoto_exit ?_ | refine noGoto_normal ?_))
      have e1 := Option.some.inj h1
      subst e1
      exact le_mk ⟨⟨_, rfl, AV.sub_refl _⟩, ⟨_, rfl, AV.sub_refl _⟩, ⟨_, rfl, AV.sub_refl _⟩, trivial⟩ trivial
    · replace h1 := if_f c1 h1
      refine gd_ff rfl rfl rfl (decide_eq_false c1) ?_
      refine ok_move rfl rfl rfl rfl ?_
      refine gd_ff rfl rfl rfl (decide_eq_false c1) ?_
      refine ok_lenS rfl rfl rfl rfl rfl rfl ?_
      refine gd_ff rfl rfl rfl (decide_eq_false c1) ?_
      refine ok_cmp rfl rfl rfl rfl rfl rfl ?_
      refine rwpL_op rfl ?_
      refine ok_pick_false rfl rfl rfl rfl (decide_eq_false c1) rfl ?_
      refine rwpL_nil ?_
      (repeat (first | refine thenQ_exit ?_ | refine thenQ_ret ?_ | refine exQ_hit ?_ | refine exQ_other rfl ?_ | refine exQ_ret ?_ | refine exQ_normal ?_ | refine blockQ_ret ?_ | refine blockQ_normal ?_ | refine blockQ_exit ?_ | refine blockQ_other rfl ?_ | refine noGoto_ret ?_ | refine noGoto_exit ?_ | refine noGoto_normal ?_))
      have e1 := Option.some.inj h1
      subst e1
      exact le_mk ⟨⟨_, rfl, AV.sub_refl _⟩, ⟨_, rfl, AV.sub_refl _⟩, ⟨_, rfl, AV.sub_refl _⟩, trivial⟩ trivial

end Go.Ab.Glob
