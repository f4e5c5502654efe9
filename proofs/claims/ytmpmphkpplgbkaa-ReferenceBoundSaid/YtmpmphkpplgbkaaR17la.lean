/- Chapter 17. -/
import Derived.Test.YtmpmphkpplgbkaaR17t
set_option linter.unusedVariables false
set_option linter.unusedSimpArgs false
set_option linter.unnecessarySimpa false
namespace Go.Ab.R17
open Go.Proofs Go.Ab
attribute [local irreducible] awp rwpL OpOk PCalls OCalls AV.sub

def ref14_left_l1 (r_ref14_left : TExpr → Int → Int → Option Int) (e_0 : TExpr) (levels_2 : Int) : Nat → Int → Int → Option Int
 | 0, _, _ => none
 | m + 1, nodes13, i14 =>
 (
   if i14 < (e_0.fKids.length : Int) then
    some (decide (0 ≤ nodes13))
   else
    some false
  : Option Bool).bind fun t16 =>
 if t16 = true then
  ck ((0 : Int) ≤ i14 ∧ i14 < (e_0.fKids.length : Int)) <|
  ck (inR (levels_2 - 1)) <|
  (r_ref14_left (lat e_0.fKids i14) nodes13 (levels_2 - 1)).bind fun r20 =>
  ck (inR (i14 + 1)) <|
  ref14_left_l1 r_ref14_left e_0 levels_2 m r20 (i14 + 1)
 else
  some nodes13

def ref14_left : Nat → TExpr → Int → Int → Option Int
 | 0, _, _, _ => none
 | n + 1, e_0, nodes_1, levels_2 =>
 if levels_2 ≤ 0 then
  some (-1)
 else
  ck (inR (nodes_1 - 1)) <|
  (ref14_left_l1 (ref14_left n) e_0 levels_2 n (nodes_1 - 1) 0).bind fun nodes25 =>
  some nodes25

set_option maxHeartbeats 4000000 in
theorem ref14_left_ok (n : Nat) : ∀ (e_0 : TExpr) (nodes_1 : Int) (levels_2 : Int) (r : Int), ref14_left n e_0 nodes_1 levels_2 = some r → PCalls Try.prog 39 [.agg (TExpr.cs e_0), eI nodes_1, eI levels_2] (· = .p (eI r)) := by
 induction n with
 | zero => intro e_0 nodes_1 levels_2 r h0; cases h0
 | succ n ih =>
 have ih_ref14_left_ok := ih
 intro e_0 nodes_1 levels_2 r h0
 rw [ref14_left] at h0
 refine pbodyA good Try.func39 rfl rfl rfl fun w0 => ?_
 refine awp_seq (awp_reg ?_)
 refine ro rfl (ok_box rfl rfl rfl rfl rfl ?_)
 refine ro rfl (ok_assign rfl rfl rfl rfl ?_)
 refine rn ?_
 refine awp_seq (awp_seq (awp_reg ?_))
 refine ro rfl (ok_move rfl rfl rfl rfl ?_)
 refine ro rfl (ok_cmp rfl rfl rfl rfl rfl rfl ?_)
 refine rn ?_
 refine wp_ifD rfl (fun c1 => ?_) (fun c1 => ?_)
 ·replace h0 := if_t c1 h0
  refine awp_seq (awp_reg ?_)
  refine ro rfl (ok_assign rfl rfl rfl rfl ?_)
  refine rn ?_
  refine awp_ret ?_
  (repeat (first | refine uw ?_ | refine uo rfl ?_))
  have e0 := oi h0
  subst e0
  refine reta_mk rfl ?_
  exact sr
 ·replace h0 := if_f c1 h0
  refine awp_skip (awp_seq (awp_reg ?_))
  refine ro rfl (ok_move rfl rfl rfl rfl ?_)
  obtain ⟨h2, h0⟩ := ck_cut h0
  refine ro rfl (ok_ar rfl rfl rfl rfl rfl rfl h2 ?_)
  refine ro rfl (ok_assign rfl rfl rfl rfl ?_)
  refine rn ?_
  refine awp_seq (awp_seq (awp_reg ?_))
  refine ro rfl (ok_assign rfl rfl rfl rfl ?_)
  refine rn ?_
  refine awp_block ?_
  obtain ⟨o28, h1, h0⟩ := bd_cut h0
  refine awp_joinE 0 ⟨[(1, .p (eI o28))], []⟩ ?_ ?_
  ·intro s' hle
   (repeat (first | refine uw ?_ | refine uo rfl ?_))
   refine awp_ghost hle ?_
   (repeat (first | refine uw ?_ | refine uo rfl ?_))
   refine awp_seq (awp_reg ?_)
   refine ro rfl (ok_move rfl rfl rfl rfl ?_)
   refine ro rfl (ok_assign rfl rfl rfl rfl ?_)
   refine rn ?_
   refine awp_ret ?_
   (repeat (first | refine uw ?_ | refine uo rfl ?_))
   have e0 := oi h0
   subst e0
   refine reta_mk rfl ?_
   exact sr
  ·skip
   refine awp_loopG (fun q30 => ⟨[(1, .p (eI q30.1)), (2, .p (eI levels_2)), (3, .ptr 3 0), (7, .p (eI q30.2))], [(3, [.p (eI e_0.fKind), .p (eI e_0.fOp), .p (eS e_0.fName), .p (eS e_0.fKey), .p (eI e_0.fValue.fKind), .p (eI e_0.fValue.fNum), .p (eS e_0.fValue.fStr), .p (eL eTValue e_0.fValue.fItems), .p (eL eS e_0.fValue.fKeys), .p (eL eTExpr e_0.fKids), .p (eI e_0.fAt)])]⟩) (fun m (q30 : Int × Int) => ref14_left_l1 (ref14_left n) e_0 levels_2 m q30.1 q30.2) (fun _ => rfl) (nodes_1 - 1, 0) h1 (ghost_le (le_mk ⟨er rfl, er rfl, er rfl, er rfl, trivial⟩ ⟨⟨_, rfl, ⟨sr, sr, sr, sr, sr, sr, sr, sr, sr, sr, sr, trivial⟩⟩, trivial⟩)) ?_
   rintro m ⟨nodes13, i14⟩ h1
   replace h1 : ref14_left_l1 (ref14_left n) e_0 levels_2 (m + 1) nodes13 i14 = some o28 := h1
   rw [ref14_left_l1] at h1
   refine awp_seq (awp_seq ?_)
   obtain ⟨o31, h2, h1⟩ := bd_cut h1
   refine awp_joinN ⟨[(1, .p (eI nodes13)), (2, .p (eI levels_2)), (3, .ptr 3 0), (7, .p (eI i14)), (20, .p (eB o31))], [(3, [.p (eI e_0.fKind), .p (eI e_0.fOp), .p (eS e_0.fName), .p (eS e_0.fKey), .p (eI e_0.fValue.fKind), .p (eI e_0.fValue.fNum), .p (eS e_0.fValue.fStr), .p (eL eTValue e_0.fValue.fItems), .p (eL eS e_0.fValue.fKeys), .p (eL eTExpr e_0.fKids), .p (eI e_0.fAt)])]⟩ ?_ ?_
   ·intro s' hle
    (repeat (first | refine uw ?_ | refine uo rfl ?_))
    refine awp_ghost hle ?_
    refine wp_if rfl (fun c17 => ?_) (fun c17 => ?_)
    ·replace h1 := if_t c17 h1
     refine awp_skip (awp_seq (awp_block (awp_reg ?_)))
     refine ro rfl (ok_fieldAddrP rfl rfl rfl rfl rfl rfl rfl rfl rfl ?_)
     refine ro rfl (ok_loadP1 rfl rfl rfl rfl rfl rfl rfl rfl ?_)
     refine ro rfl (ok_move rfl rfl rfl rfl ?_)
     obtain ⟨h18, h1⟩ := ck_cut h1
     refine ro rfl (op_at (f := eTExpr) (l := e_0.fKids) TExpr.cs rfl rfl rfl rfl rfl rfl rfl rfl rfl h18 TExpr.cells_eq (fun _ => rfl) ?_)
     refine ro rfl (ok_loadRA rfl rfl rfl rfl rfl rfl rfl ?_)
     refine ro rfl (ok_move rfl rfl rfl rfl ?_)
     refine ro rfl (ok_move rfl rfl rfl rfl ?_)
     obtain ⟨h19, h1⟩ := ck_cut h1
     refine ro rfl (ok_ar rfl rfl rfl rfl rfl rfl h19 ?_)
     obtain ⟨r20, e21, h1⟩ := bd_cut h1
     refine ro rfl (ok_callP (ih_ref14_left_ok (lat e_0.fKids i14) nodes13 (levels_2 - 1) _ e21) rfl rfl rfl rfl ⟨sr, sr, sr, trivial⟩ Try.call39 rfl ?_)
     refine ro rfl (ok_assign rfl rfl rfl rfl ?_)
     refine rn ?_
     (repeat (first | refine uw ?_ | refine uo rfl ?_))
     refine awp_reg ?_
     refine ro rfl (ok_move rfl rfl rfl rfl ?_)
     obtain ⟨h22, h1⟩ := ck_cut h1
     refine ro rfl (ok_ar rfl rfl rfl rfl rfl rfl h22 ?_)
     refine ro rfl (ok_assign rfl rfl rfl rfl ?_)
     refine rn ?_
     (repeat (first | refine uw ?_ | refine uo rfl ?_))
     exact ⟨(r20, i14 + 1), h1, ghost_le (le_mk ⟨er rfl, er rfl, er rfl, er rfl, trivial⟩ ⟨⟨_, rfl, ⟨sr, sr, sr, sr, sr, sr, sr, sr, sr, sr, sr, trivial⟩⟩, trivial⟩)⟩
    ·replace h1 := if_bf c17 h1
     refine awp_exit ?_
     (repeat (first | refine uw ?_ | refine uo rfl ?_))
     have e1 := oi h1
     subst e1
     exact ghost_le (le_mk ⟨er rfl, trivial⟩ trivial)
   ·skip
    refine awp_reg ?_
    refine ro rfl (ok_move rfl rfl rfl rfl ?_)
    refine ro rfl (ok_fieldAddrP rfl rfl rfl rfl rfl rfl rfl rfl rfl ?_)
    refine ro rfl (ok_loadP1 rfl rfl rfl rfl rfl rfl rfl rfl ?_)
    refine ro rfl (op_lenL (f := eTExpr) (l := e_0.fKids) rfl rfl rfl rfl rfl rfl rfl ?_)
    refine ro rfl (ok_cmp rfl rfl rfl rfl rfl rfl ?_)
    refine ro rfl (ok_move rfl rfl rfl rfl ?_)
    refine gd_D rfl rfl rfl (fun c15 => ?_) (fun c15 => ?_)
    ·replace h2 := if_t c15 h2
     refine gd_tt rfl rfl rfl (dt c15) (ok_move rfl rfl rfl rfl ?_)
     refine gd_tt rfl rfl rfl (dt c15) (ok_cmp rfl rfl rfl rfl rfl rfl ?_)
     refine ro rfl (ok_pick_true rfl rfl rfl rfl (dt c15) rfl ?_)
     refine rn ?_
     (repeat (first | refine uw ?_ | refine uo rfl ?_))
     have e2 := oi h2
     subst e2
     exact ghost_le (le_mk ⟨er rfl, er rfl, er rfl, er rfl, er rfl, trivial⟩ ⟨⟨_, rfl, ⟨sr, sr, sr, sr, sr, sr, sr, sr, sr, sr, sr, trivial⟩⟩, trivial⟩)
    ·replace h2 := if_f c15 h2
     refine gd_tf rfl rfl rfl (df c15) rfl rfl ?_
     refine gd_tf rfl rfl rfl (df c15) rfl rfl ?_
     refine ro rfl (ok_pick_false rfl rfl rfl rfl (df c15) rfl ?_)
     refine rn ?_
     (repeat (first | refine uw ?_ | refine uo rfl ?_))
     have e2 := oi h2
     subst e2
     exact ghost_le (le_mk ⟨er rfl, er rfl, er rfl, er rfl, er rfl, trivial⟩ ⟨⟨_, rfl, ⟨sr, sr, sr, sr, sr, sr, sr, sr, sr, sr, sr, trivial⟩⟩, trivial⟩)

def ref14_Small (n : Nat) (e_0 : TExpr) (nodes_1 : Int) : Option Bool :=
 (ref14_left n e_0 nodes_1 40).bind fun r1 =>
 some (decide (0 ≤ r1))

set_option maxHeartbeats 4000000 in
theorem ref14_Small_ok (n : Nat) (e_0 : TExpr) (nodes_1 : Int) (r : Bool) (h0 : ref14_Small n e_0 nodes_1 = some r) : PCalls Try.prog 23 [.agg (TExpr.cs e_0), eI nodes_1] (· = .p (eB r)) := by
 unfold ref14_Small at h0
 refine pbodyA good Try.func23 rfl rfl rfl fun w0 => ?_
 refine awp_seq (awp_reg ?_)
 refine ro rfl (ok_box rfl rfl rfl rfl rfl ?_)
 refine ro rfl (ok_assign rfl rfl rfl rfl ?_)
 refine rn ?_
 refine awp_seq (awp_reg ?_)
 refine ro rfl (ok_loadPA rfl rfl rfl rfl rfl rfl rfl rfl rfl ?_)
 refine ro rfl (ok_move rfl rfl rfl rfl ?_)
 obtain ⟨r1, e2, h0⟩ := bd_cut h0
 refine ro rfl (ok_callP (ref14_left_ok _ e_0 nodes_1 40 _ e2) rfl rfl rfl rfl ⟨sr, sr, sr, trivial⟩ Try.call39 rfl ?_)
 refine ro rfl (ok_cmp rfl rfl rfl rfl rfl rfl ?_)
 refine ro rfl (ok_assign rfl rfl rfl rfl ?_)
 refine rn ?_
 refine awp_ret ?_
 (repeat (first | refine uw ?_ | refine uo rfl ?_))
 have e0 := oi h0
 subst e0
 refine reta_mk rfl ?_
 exact sr

def ref06_letter (c_0 : Int) : Option Bool :=
 (
   if 97 ≤ c_0 then
    if c_0 ≤ 122 then
     some true
    else
     if 65 ≤ c_0 then
      if c_0 ≤ 90 then
       some true
      else
       some (decide (c_0 = 95))
     else
      some (decide (c_0 = 95))
   else
    if 65 ≤ c_0 then
     if c_0 ≤ 90 then
      some true
     else
      some (decide (c_0 = 95))
    else
     some (decide (c_0 = 95))
  : Option Bool).bind fun t7 =>
 some t7

set_option maxHeartbeats 4000000 in
theorem ref06_letter_ok (c_0 : Int) (r : Bool) (h0 : ref06_letter c_0 = some r) : PCalls Try.prog 71 [eK .u8 c_0] (· = .p (eB r)) := by
 unfold ref06_letter at h0
 refine pbodyA good Try.func71 rfl rfl rfl fun w0 => ?_
 refine awp_seq (awp_reg ?_)
 refine ro rfl (ok_assign rfl rfl rfl rfl ?_)
 refine rn ?_
 refine awp_seq ?_
 obtain ⟨o9, h1, h0⟩ := bd_cut h0
 refine awp_joinN ⟨[(2, .p (eB o9))], []⟩ ?_ ?_
 ·intro s' hle
  (repeat (first | refine uw ?_ | refine uo rfl ?_))
  refine awp_ghost hle ?_
  refine awp_ret ?_
  (repeat (first | refine uw ?_ | refine uo rfl ?_))
  have e0 := oi h0
  subst e0
  refine reta_mk rfl ?_
  exact sr
 ·skip
  refine awp_reg ?_
  refine ro rfl (ok_move rfl rfl rfl rfl ?_)
  refine ro rfl (ok_cmp rfl rfl rfl rfl rfl rfl ?_)
  refine ro rfl (ok_move rfl rfl rfl rfl ?_)
  refine gd_D rfl rfl rfl (fun c1 => ?_) (fun c1 => ?_)
  ·replace h1 := if_t c1 h1
   refine gd_tt rfl rfl rfl (dt c1) (ok_move rfl rfl rfl rfl ?_)
   refine gd_tt rfl rfl rfl (dt c1) (ok_cmp rfl rfl rfl rfl rfl rfl ?_)
   refine ro rfl (ok_pick_true rfl rfl rfl rfl (dt c1) rfl ?_)
   refine ro rfl (ok_move rfl rfl rfl rfl ?_)
   refine gd_D rfl rfl rfl (fun c2 => ?_) (fun c2 => ?_)
   ·replace h1 := if_t c2 h1
    refine gd_ft rfl rfl rfl (dt c2) rfl rfl ?_
    refine gd_ft rfl rfl rfl (dt c2) rfl rfl ?_
    refine gd_ft rfl rfl rfl (dt c2) rfl rfl ?_
    refine gd_none rfl rfl rfl rfl rfl ?_
    refine gd_none rfl rfl rfl rfl rfl ?_
    refine gd_ft rfl rfl rfl (dt c2) rfl rfl ?_
    refine ro rfl (ok_pick_true rfl rfl rfl rfl (dt c2) rfl ?_)
    refine ro rfl (ok_move rfl rfl rfl rfl ?_)
    refine gd_ft rfl rfl rfl (rfl) rfl rfl ?_
    refine gd_ft rfl rfl rfl (rfl) rfl rfl ?_
    refine ro rfl (ok_pick_true rfl rfl rfl rfl (rfl) rfl ?_)
    refine ro rfl (ok_assign rfl rfl rfl rfl ?_)
    refine rn ?_
    (repeat (first | refine uw ?_ | refine uo rfl ?_))
    have e1 := oi h1
    subst e1
    exact ghost_le (le_mk ⟨er rfl, trivial⟩ trivial)
   ·replace h1 := if_f c2 h1
    refine gd_ff rfl rfl rfl (df c2) (ok_move rfl rfl rfl rfl ?_)
    refine gd_ff rfl rfl rfl (df c2) (ok_cmp rfl rfl rfl rfl rfl rfl ?_)
    refine gd_ff rfl rfl rfl (df c2) (ok_move rfl rfl rfl rfl ?_)
    refine gd_D rfl rfl rfl (fun c3 => ?_) (fun c3 => ?_)
    ·replace h1 := if_t c3 h1
     refine gd_tt rfl rfl rfl (dt c3) (ok_move rfl rfl rfl rfl ?_)
     refine gd_tt rfl rfl rfl (dt c3) (ok_cmp rfl rfl rfl rfl rfl rfl ?_)
     refine gd_ff rfl rfl rfl (df c2) (ok_pick_true rfl rfl rfl rfl (dt c3) rfl ?_)
     refine ro rfl (ok_pick_false rfl rfl rfl rfl (df c2) rfl ?_)
     refine ro rfl (ok_move rfl rfl rfl rfl ?_)
     refine gd_D rfl rfl rfl (fun c4 => ?_) (fun c4 => ?_)
     ·replace h1 := if_t c4 h1
      refine gd_ft rfl rfl rfl (dt c4) rfl rfl ?_
      refine gd_ft rfl rfl rfl (dt c4) rfl rfl ?_
      refine ro rfl (ok_pick_true rfl rfl rfl rfl (dt c4) rfl ?_)
      refine ro rfl (ok_assign rfl rfl rfl rfl ?_)
      refine rn ?_
      (repeat (first | refine uw ?_ | refine uo rfl ?_))
      have e1 := oi h1
      subst e1
      exact ghost_le (le_mk ⟨er rfl, trivial⟩ trivial)
     ·replace h1 := if_f c4 h1
      refine gd_ff rfl rfl rfl (df c4) (ok_move rfl rfl rfl rfl ?_)
      refine gd_ff rfl rfl rfl (df c4) (ok_cmp rfl rfl rfl rfl rfl rfl ?_)
      refine ro rfl (ok_pick_false rfl rfl rfl rfl (df c4) rfl ?_)
      refine ro rfl (ok_assign rfl rfl rfl rfl ?_)
      refine rn ?_
      (repeat (first | refine uw ?_ | refine uo rfl ?_))
      have e1 := oi h1
      subst e1
      exact ghost_le (le_mk ⟨er rfl, trivial⟩ trivial)
    ·replace h1 := if_f c3 h1
     refine gd_tf rfl rfl rfl (df c3) rfl rfl ?_
     refine gd_tf rfl rfl rfl (df c3) rfl rfl ?_
     refine gd_ff rfl rfl rfl (df c2) (ok_pick_false rfl rfl rfl rfl (df c3) rfl ?_)
     refine ro rfl (ok_pick_false rfl rfl rfl rfl (df c2) rfl ?_)
     refine ro rfl (ok_move rfl rfl rfl rfl ?_)
     refine gd_ff rfl rfl rfl (rfl) (ok_move rfl rfl rfl rfl ?_)
     refine gd_ff rfl rfl rfl (rfl) (ok_cmp rfl rfl rfl rfl rfl rfl ?_)
     refine ro rfl (ok_pick_false rfl rfl rfl rfl (rfl) rfl ?_)
     refine ro rfl (ok_assign rfl rfl rfl rfl ?_)
     refine rn ?_
     (repeat (first | refine uw ?_ | refine uo rfl ?_))
     have e1 := oi h1
     subst e1
     exact ghost_le (le_mk ⟨er rfl, trivial⟩ trivial)
  ·replace h1 := if_f c1 h1
   refine gd_tf rfl rfl rfl (df c1) rfl rfl ?_
   refine gd_tf rfl rfl rfl (df c1) rfl rfl ?_
   refine ro rfl (ok_pick_false rfl rfl rfl rfl (df c1) rfl ?_)
   refine ro rfl (ok_move rfl rfl rfl rfl ?_)
   refine gd_ff rfl rfl rfl (rfl) (ok_move rfl rfl rfl rfl ?_)
   refine gd_ff rfl rfl rfl (rfl) (ok_cmp rfl rfl rfl rfl rfl rfl ?_)
   refine gd_ff rfl rfl rfl (rfl) (ok_move rfl rfl rfl rfl ?_)
   refine gd_D rfl rfl rfl (fun c5 => ?_) (fun c5 => ?_)
   ·replace h1 := if_t c5 h1
    refine gd_tt rfl rfl rfl (dt c5) (ok_move rfl rfl rfl rfl ?_)
    refine gd_tt rfl rfl rfl (dt c5) (ok_cmp rfl rfl rfl rfl rfl rfl ?_)
    refine gd_ff rfl rfl rfl (rfl) (ok_pick_true rfl rfl rfl rfl (dt c5) rfl ?_)
    refine ro rfl (ok_pick_false rfl rfl rfl rfl (rfl) rfl ?_)
    refine ro rfl (ok_move rfl rfl rfl rfl ?_)
    refine gd_D rfl rfl rfl (fun c6 => ?_) (fun c6 => ?_)
    ·replace h1 := if_t c6 h1
     refine gd_ft rfl rfl rfl (dt c6) rfl rfl ?_
     refine gd_ft rfl rfl rfl (dt c6) rfl rfl ?_
     refine ro rfl (ok_pick_true rfl rfl rfl rfl (dt c6) rfl ?_)
     refine ro rfl (ok_assign rfl rfl rfl rfl ?_)
     refine rn ?_
     (repeat (first | refine uw ?_ | refine uo rfl ?_))
     have e1 := oi h1
     subst e1
     exact ghost_le (le_mk ⟨er rfl, trivial⟩ trivial)
    ·replace h1 := if_f c6 h1
     refine gd_ff rfl rfl rfl (df c6) (ok_move rfl rfl rfl rfl ?_)
     refine gd_ff rfl rfl rfl (df c6) (ok_cmp rfl rfl rfl rfl rfl rfl ?_)
     refine ro rfl (ok_pick_false rfl rfl rfl rfl (df c6) rfl ?_)
     refine ro rfl (ok_assign rfl rfl rfl rfl ?_)
     refine rn ?_
     (repeat (first | refine uw ?_ | refine uo rfl ?_))
     have e1 := oi h1
     subst e1
     exact ghost_le (le_mk ⟨er rfl, trivial⟩ trivial)
   ·replace h1 := if_f c5 h1
    refine gd_tf rfl rfl rfl (df c5) rfl rfl ?_
    refine gd_tf rfl rfl rfl (df c5) rfl rfl ?_
    refine gd_ff rfl rfl rfl (rfl) (ok_pick_false rfl rfl rfl rfl (df c5) rfl ?_)
    refine ro rfl (ok_pick_false rfl rfl rfl rfl (rfl) rfl ?_)
    refine ro rfl (ok_move rfl rfl rfl rfl ?_)
    refine gd_ff rfl rfl rfl (rfl) (ok_move rfl rfl rfl rfl ?_)
    refine gd_ff rfl rfl rfl (rfl) (ok_cmp rfl rfl rfl rfl rfl rfl ?_)
    refine ro rfl (ok_pick_false rfl rfl rfl rfl (rfl) rfl ?_)
    refine ro rfl (ok_assign rfl rfl rfl rfl ?_)
    refine rn ?_
    (repeat (first | refine uw ?_ | refine uo rfl ?_))
    have e1 := oi h1
    subst e1
    exact ghost_le (le_mk ⟨er rfl, trivial⟩ trivial)

def ref06_Identifier_l1 (s_0 : Bytes) : Nat → Int → Option (Unit ⊕ Bool)
 | 0, _ => none
 | m + 1, i20 =>
 if i20 < (s_0.length : Int) then
  (
    ck ((0 : Int) ≤ i20 ∧ i20 < (s_0.length : Int)) <|
    (ref06_letter (byt s_0 i20)).bind fun r23 =>
    if (!r23) = true then
     ck ((0 : Int) ≤ i20 ∧ i20 < (s_0.length : Int)) <|
     if byt s_0 i20 < 48 then
      some true
     else
      ck ((0 : Int) ≤ i20 ∧ i20 < (s_0.length : Int)) <|
      some (decide (57 < byt s_0 i20))
    else
     some false
   : Option Bool).bind fun t29 =>
  if t29 = true then
   some (.inr false)
  else
   ck (inR (i20 + 1)) <|
   ref06_Identifier_l1 s_0 m (i20 + 1)
 else
  some (.inl ())

def ref06_Identifier (n : Nat) (s_0 : Bytes) : Option Bool :=
 (
   if s_0 = ([] : Bytes) then
    some true
   else
    if 64 < (s_0.length : Int) then
     some true
    else
     ck ((0 : Int) ≤ 0 ∧ 0 < (s_0.length : Int)) <|
     (ref06_letter (byt s_0 0)).bind fun r4 =>
     some (!r4)
  : Option Bool).bind fun t6 =>
 if t6 = true then
  some false
 else
  jn (ref06_Identifier_l1 s_0 n 0) fun q34 =>
  some true

set_option maxHeartbeats 4000000 in
theorem ref06_Identifier_ok (n : Nat) (s_0 : Bytes) (r : Bool) (h0 : ref06_Identifier n s_0 = some r) : PCalls Try.prog 59 [eS s_0] (· = .p (eB r)) := by
 unfold ref06_Identifier at h0
 refine pbodyA good Try.func59 rfl rfl rfl fun w0 => ?_
 refine awp_seq (awp_reg ?_)
 refine ro rfl (ok_assign rfl rfl rfl rfl ?_)
 refine rn ?_
 refine awp_seq (awp_seq ?_)
 obtain ⟨o36, h1, h0⟩ := bd_cut h0
 refine awp_joinN ⟨[(0, .p (eS s_0)), (16, .p (eB o36))], []⟩ ?_ ?_
 ·intro s' hle
  (repeat (first | refine uw ?_ | refine uo rfl ?_))
  refine awp_ghost hle ?_
  refine wp_if rfl (fun c7 => ?_) (fun c7 => ?_)
  ·replace h0 := if_t c7 h0
   refine awp_seq (awp_reg ?_)
   refine ro rfl (ok_assign rfl rfl rfl rfl ?_)
   refine rn ?_
   refine awp_ret ?_
   (repeat (first | refine uw ?_ | refine uo rfl ?_))
   have e0 := oi h0
   subst e0
   refine reta_mk rfl ?_
   exact sr
  ·replace h0 := if_bf c7 h0
   refine awp_skip (awp_seq (awp_seq (awp_reg ?_)))
   refine ro rfl (ok_assign rfl rfl rfl rfl ?_)
   refine rn ?_
   refine awp_block ?_
   obtain ⟨o38, h1, hL0, hR0⟩ := jn_cut h0
   refine awp_joinEx 0 (fun v39 : Unit => o38 = .inl v39) (fun v39 => ⟨[], []⟩) ?_ ?_
   ·rintro s' ⟨v39, hv, hle⟩
    have h0 := hL0 _ hv
    (repeat (first | refine uw ?_ | refine uo rfl ?_))
    refine awp_ghost hle ?_
    (repeat (first | refine uw ?_ | refine uo rfl ?_))
    refine awp_seq (awp_reg ?_)
    refine ro rfl (ok_assign rfl rfl rfl rfl ?_)
    refine rn ?_
    refine awp_ret ?_
    (repeat (first | refine uw ?_ | refine uo rfl ?_))
    have e0 := oi h0
    subst e0
    refine reta_mk rfl ?_
    exact sr
   ·skip
    refine awp_loopG (fun q40 => ⟨[(0, .p (eS s_0)), (3, .p (eI q40))], []⟩) (fun m (q40 : Int) => ref06_Identifier_l1 s_0 m q40) (fun _ => rfl) 0 h1 (ghost_le (le_mk ⟨er rfl, er rfl, trivial⟩ trivial)) ?_
    rintro m i20 h1
    replace h1 : ref06_Identifier_l1 s_0 (m + 1) i20 = some o38 := h1
    rw [ref06_Identifier_l1] at h1
    refine awp_seq (awp_seq (awp_reg ?_))
    refine ro rfl (ok_move rfl rfl rfl rfl ?_)
    refine ro rfl (ok_move rfl rfl rfl rfl ?_)
    refine ro rfl (ok_lenS rfl rfl rfl rfl rfl rfl ?_)
    refine ro rfl (ok_cmp rfl rfl rfl rfl rfl rfl ?_)
    refine rn ?_
    refine wp_ifD rfl (fun c21 => ?_) (fun c21 => ?_)
    ·replace h1 := if_t c21 h1
     refine awp_skip (awp_seq (awp_block (awp_seq ?_)))
     obtain ⟨o41, h2, h1⟩ := bd_cut h1
     refine awp_joinN ⟨[(0, .p (eS s_0)), (3, .p (eI i20)), (39, .p (eB o41))], []⟩ ?_ ?_
     ·intro s' hle
      (repeat (first | refine uw ?_ | refine uo rfl ?_))
      refine awp_ghost hle ?_
      refine wp_if rfl (fun c30 => ?_) (fun c30 => ?_)
      ·replace h1 := if_t c30 h1
       refine awp_seq (awp_reg ?_)
       refine ro rfl (ok_assign rfl rfl rfl rfl ?_)
       refine rn ?_
       refine awp_ret ?_
       (repeat (first | refine uw ?_ | refine uo rfl ?_))
       have e1 := oi h1
       have e0 := hR0 _ e1.symm
       subst e0
       refine reta_mk rfl ?_
       exact sr
      ·replace h1 := if_bf c30 h1
       refine awp_skip ?_
       (repeat (first | refine uw ?_ | refine uo rfl ?_))
       refine awp_reg ?_
       refine ro rfl (ok_move rfl rfl rfl rfl ?_)
       obtain ⟨h31, h1⟩ := ck_cut h1
       refine ro rfl (ok_ar rfl rfl rfl rfl rfl rfl h31 ?_)
       refine ro rfl (ok_assign rfl rfl rfl rfl ?_)
       refine rn ?_
       (repeat (first | refine uw ?_ | refine uo rfl ?_))
       exact ⟨(i20 + 1), h1, ghost_le (le_mk ⟨er rfl, er rfl, trivial⟩ trivial)⟩
     ·skip
      refine awp_reg ?_
      refine ro rfl (ok_move rfl rfl rfl rfl ?_)
      refine ro rfl (ok_move rfl rfl rfl rfl ?_)
      obtain ⟨h22, h2⟩ := ck_cut h2
      refine ro rfl (op_indexS rfl rfl rfl rfl rfl rfl rfl h22 ?_)
      obtain ⟨r23, e24, h2⟩ := bd_cut h2
      refine ro rfl (ok_callP (ref06_letter_ok (byt s_0 i20) _ e24) rfl rfl rfl rfl ⟨sr, trivial⟩ Try.call71 rfl ?_)
      refine ro rfl (ok_not rfl rfl rfl rfl ?_)
      refine ro rfl (ok_move rfl rfl rfl rfl ?_)
      refine gd_B rfl rfl rfl (fun c25 => ?_) (fun c25 => ?_)
      ·replace h2 := if_t c25 h2
       refine gd_tt rfl rfl rfl (c25) (ok_move rfl rfl rfl rfl ?_)
       refine gd_tt rfl rfl rfl (c25) (ok_move rfl rfl rfl rfl ?_)
       obtain ⟨h26, h2⟩ := ck_cut h2
       refine gd_tt rfl rfl rfl (c25) (op_indexS rfl rfl rfl rfl rfl rfl rfl h26 ?_)
       refine gd_tt rfl rfl rfl (c25) (ok_cmp rfl rfl rfl rfl rfl rfl ?_)
       refine gd_tt rfl rfl rfl (c25) (ok_move rfl rfl rfl rfl ?_)
       refine gd_D rfl rfl rfl (fun c27 => ?_) (fun c27 => ?_)
       ·replace h2 := if_t c27 h2
        refine gd_ft rfl rfl rfl (dt c27) rfl rfl ?_
        refine gd_ft rfl rfl rfl (dt c27) rfl rfl ?_
        refine gd_ft rfl rfl rfl (dt c27) rfl rfl ?_
        refine gd_ft rfl rfl rfl (dt c27) rfl rfl ?_
        refine gd_tt rfl rfl rfl (c25) (ok_pick_true rfl rfl rfl rfl (dt c27) rfl ?_)
        refine ro rfl (ok_pick_true rfl rfl rfl rfl (c25) rfl ?_)
        refine rn ?_
        (repeat (first | refine uw ?_ | refine uo rfl ?_))
        have e2 := oi h2
        subst e2
        exact ghost_le (le_mk ⟨er rfl, er rfl, er rfl, trivial⟩ trivial)
       ·replace h2 := if_f c27 h2
        refine gd_ff rfl rfl rfl (df c27) (ok_move rfl rfl rfl rfl ?_)
        refine gd_ff rfl rfl rfl (df c27) (ok_move rfl rfl rfl rfl ?_)
        obtain ⟨h28, h2⟩ := ck_cut h2
        refine gd_ff rfl rfl rfl (df c27) (op_indexS rfl rfl rfl rfl rfl rfl rfl h28 ?_)
        refine gd_ff rfl rfl rfl (df c27) (ok_cmp rfl rfl rfl rfl rfl rfl ?_)
        refine gd_tt rfl rfl rfl (c25) (ok_pick_false rfl rfl rfl rfl (df c27) rfl ?_)
        refine ro rfl (ok_pick_true rfl rfl rfl rfl (c25) rfl ?_)
        refine rn ?_
        (repeat (first | refine uw ?_ | refine uo rfl ?_))
        have e2 := oi h2
        subst e2
        exact ghost_le (le_mk ⟨er rfl, er rfl, er rfl, trivial⟩ trivial)
      ·replace h2 := if_bf c25 h2
       refine gd_tf rfl rfl rfl (c25) rfl rfl ?_
       refine gd_tf rfl rfl rfl (c25) rfl rfl ?_
       refine gd_tf rfl rfl rfl (c25) rfl rfl ?_
       refine gd_tf rfl rfl rfl (c25) rfl rfl ?_
       refine gd_tf rfl rfl rfl (c25) rfl rfl ?_
       refine gd_none rfl rfl rfl rfl rfl ?_
       refine gd_none rfl rfl rfl rfl rfl ?_
       refine gd_none rfl rfl rfl rfl rfl ?_
       refine gd_none rfl rfl rfl rfl rfl ?_
       refine gd_tf rfl rfl rfl (c25) rfl rfl ?_
       refine ro rfl (ok_pick_false rfl rfl rfl rfl (c25) rfl ?_)
       refine rn ?_
       (repeat (first | refine uw ?_ | refine uo rfl ?_))
       have e2 := oi h2
       subst e2
       exact ghost_le (le_mk ⟨er rfl, er rfl, er rfl, trivial⟩ trivial)
    ·replace h1 := if_f c21 h1
     refine awp_exit ?_
     (repeat (first | refine uw ?_ | refine uo rfl ?_))
     have e1 := oi h1
     exact ⟨_, e1.symm, ghost_le (le_mk trivial trivial)⟩
 ·skip
  refine awp_reg ?_
  refine ro rfl (ok_move rfl rfl rfl rfl ?_)
  refine ro rfl (ok_cmpS rfl rfl rfl rfl rfl rfl ?_)
  refine ro rfl (ok_move rfl rfl rfl rfl ?_)
  refine gd_D rfl rfl rfl (fun c1 => ?_) (fun c1 => ?_)
  ·replace h1 := if_t c1 h1
   refine gd_ft rfl rfl rfl (dt c1) rfl rfl ?_
   refine gd_ft rfl rfl rfl (dt c1) rfl rfl ?_
   refine gd_ft rfl rfl rfl (dt c1) rfl rfl ?_
   refine ro rfl (ok_pick_true rfl rfl rfl rfl (dt c1) rfl ?_)
   refine ro rfl (ok_move rfl rfl rfl rfl ?_)
   refine gd_ft rfl rfl rfl (rfl) rfl rfl ?_
   refine gd_ft rfl rfl rfl (rfl) rfl rfl ?_
   refine gd_ft rfl rfl rfl (rfl) rfl rfl ?_
   refine gd_ft rfl rfl rfl (rfl) rfl rfl ?_
   refine ro rfl (ok_pick_true rfl rfl rfl rfl (rfl) rfl ?_)
   refine rn ?_
   (repeat (first | refine uw ?_ | refine uo rfl ?_))
   have e1 := oi h1
   subst e1
   exact ghost_le (le_mk ⟨er rfl, er rfl, trivial⟩ trivial)
  ·replace h1 := if_f c1 h1
   refine gd_ff rfl rfl rfl (df c1) (ok_move rfl rfl rfl rfl ?_)
   refine gd_ff rfl rfl rfl (df c1) (ok_lenS rfl rfl rfl rfl rfl rfl ?_)
   refine gd_ff rfl rfl rfl (df c1) (ok_cmp rfl rfl rfl rfl rfl rfl ?_)
   refine ro rfl (ok_pick_false rfl rfl rfl rfl (df c1) rfl ?_)
   refine ro rfl (ok_move rfl rfl rfl rfl ?_)
   refine gd_D rfl rfl rfl (fun c2 => ?_) (fun c2 => ?_)
   ·replace h1 := if_t c2 h1
    refine gd_ft rfl rfl rfl (dt c2) rfl rfl ?_
    refine gd_ft rfl rfl rfl (dt c2) rfl rfl ?_
    refine gd_ft rfl rfl rfl (dt c2) rfl rfl ?_
    refine gd_ft rfl rfl rfl (dt c2) rfl rfl ?_
    refine ro rfl (ok_pick_true rfl rfl rfl rfl (dt c2) rfl ?_)
    refine rn ?_
    (repeat (first | refine uw ?_ | refine uo rfl ?_))
    have e1 := oi h1
    subst e1
    exact ghost_le (le_mk ⟨er rfl, er rfl, trivial⟩ trivial)
   ·replace h1 := if_f c2 h1
    refine gd_ff rfl rfl rfl (df c2) (ok_move rfl rfl rfl rfl ?_)
    obtain ⟨h3, h1⟩ := ck_cut h1
    refine gd_ff rfl rfl rfl (df c2) (op_indexS rfl rfl rfl rfl rfl rfl rfl h3 ?_)
    obtain ⟨r4, e5, h1⟩ := bd_cut h1
    refine gd_ff rfl rfl rfl (df c2) (ok_callP (ref06_letter_ok (byt s_0 0) _ e5) rfl rfl rfl rfl ⟨sr, trivial⟩ Try.call71 rfl ?_)
    refine gd_ff rfl rfl rfl (df c2) (ok_not rfl rfl rfl rfl ?_)
    refine ro rfl (ok_pick_false rfl rfl rfl rfl (df c2) rfl ?_)
    refine rn ?_
    (repeat (first | refine uw ?_ | refine uo rfl ?_))
    have e1 := oi h1
    subst e1
    exact ghost_le (le_mk ⟨er rfl, er rfl, trivial⟩ trivial)

def ref14_loop (k_0 : Int) : Option Bool :=
 (
   if k_0 = 12 then
    some true
   else
    some (decide (k_0 = 13))
  : Option Bool).bind fun t2 =>
 some t2

set_option maxHeartbeats 4000000 in
theorem ref14_loop_ok (k_0 : Int) (r : Bool) (h0 : ref14_loop k_0 = some r) : PCalls Try.prog 78 [eI k_0] (· = .p (eB r)) := by
 unfold ref14_loop at h0
 refine pbodyA good Try.func78 rfl rfl rfl fun w0 => ?_
 refine awp_seq (awp_reg ?_)
 refine ro rfl (ok_assign rfl rfl rfl rfl ?_)
 refine rn ?_
 refine awp_seq ?_
 obtain ⟨o4, h1, h0⟩ := bd_cut h0
 refine awp_joinN ⟨[(2, .p (eB o4))], []⟩ ?_ ?_
 ·intro s' hle
  (repeat (first | refine uw ?_ | refine uo rfl ?_))
  refine awp_ghost hle ?_
  refine awp_ret ?_
  (repeat (first | refine uw ?_ | refine uo rfl ?_))
  have e0 := oi h0
  subst e0
  refine reta_mk rfl ?_
  exact sr
 ·skip
  refine awp_reg ?_
  refine ro rfl (ok_move rfl rfl rfl rfl ?_)
  refine ro rfl (ok_cmp rfl rfl rfl rfl rfl rfl ?_)
  refine ro rfl (ok_move rfl rfl rfl rfl ?_)
  refine gd_D rfl rfl rfl (fun c1 => ?_) (fun c1 => ?_)
  ·replace h1 := if_t c1 h1
   refine gd_ft rfl rfl rfl (dt c1) rfl rfl ?_
   refine gd_ft rfl rfl rfl (dt c1) rfl rfl ?_
   refine ro rfl (ok_pick_true rfl rfl rfl rfl (dt c1) rfl ?_)
   refine ro rfl (ok_assign rfl rfl rfl rfl ?_)
   refine rn ?_
   (repeat (first | refine uw ?_ | refine uo rfl ?_))
   have e1 := oi h1
   subst e1
   exact ghost_le (le_mk ⟨er rfl, trivial⟩ trivial)
  ·replace h1 := if_f c1 h1
   refine gd_ff rfl rfl rfl (df c1) (ok_move rfl rfl rfl rfl ?_)
   refine gd_ff rfl rfl rfl (df c1) (ok_cmp rfl rfl rfl rfl rfl rfl ?_)
   refine ro rfl (ok_pick_false rfl rfl rfl rfl (df c1) rfl ?_)
   refine ro rfl (ok_assign rfl rfl rfl rfl ?_)
   refine rn ?_
   (repeat (first | refine uw ?_ | refine uo rfl ?_))
   have e1 := oi h1
   subst e1
   exact ghost_le (le_mk ⟨er rfl, trivial⟩ trivial)

def ref14_named (k_0 : Int) : Option Bool :=
 (
   if k_0 = 3 then
    some true
   else
    if k_0 = 4 then
     some true
    else
     if k_0 = 9 then
      some true
     else
      (ref14_loop k_0).bind fun r4 =>
      some r4
  : Option Bool).bind fun t6 =>
 some t6

set_option maxHeartbeats 4000000 in
theorem ref14_named_ok (k_0 : Int) (r : Bool) (h0 : ref14_named k_0 = some r) : PCalls Try.prog 68 [eI k_0] (· = .p (eB r)) := by
 unfold ref14_named at h0
 refine pbodyA good Try.func68 rfl rfl rfl fun w0 => ?_
 refine awp_seq (awp_reg ?_)
 refine ro rfl (ok_assign rfl rfl rfl rfl ?_)
 refine rn ?_
 refine awp_seq ?_
 obtain ⟨o8, h1, h0⟩ := bd_cut h0
 refine awp_joinN ⟨[(2, .p (eB o8))], []⟩ ?_ ?_
 ·intro s' hle
  (repeat (first | refine uw ?_ | refine uo rfl ?_))
  refine awp_ghost hle ?_
  refine awp_ret ?_
  (repeat (first | refine uw ?_ | refine uo rfl ?_))
  have e0 := oi h0
  subst e0
  refine reta_mk rfl ?_
  exact sr
 ·skip
  refine awp_reg ?_
  refine ro rfl (ok_move rfl rfl rfl rfl ?_)
  refine ro rfl (ok_cmp rfl rfl rfl rfl rfl rfl ?_)
  refine ro rfl (ok_move rfl rfl rfl rfl ?_)
  refine gd_D rfl rfl rfl (fun c1 => ?_) (fun c1 => ?_)
  ·replace h1 := if_t c1 h1
   refine gd_ft rfl rfl rfl (dt c1) rfl rfl ?_
   refine gd_ft rfl rfl rfl (dt c1) rfl rfl ?_
   refine ro rfl (ok_pick_true rfl rfl rfl rfl (dt c1) rfl ?_)
   refine ro rfl (ok_move rfl rfl rfl rfl ?_)
   refine gd_ft rfl rfl rfl (rfl) rfl rfl ?_
   refine gd_ft rfl rfl rfl (rfl) rfl rfl ?_
   refine ro rfl (ok_pick_true rfl rfl rfl rfl (rfl) rfl ?_)
   refine ro rfl (ok_move rfl rfl rfl rfl ?_)
   refine gd_ft rfl rfl rfl (rfl) rfl rfl ?_
   refine gd_ft rfl rfl rfl (rfl) rfl rfl ?_
   refine ro rfl (ok_pick_true rfl rfl rfl rfl (rfl) rfl ?_)
   refine ro rfl (ok_assign rfl rfl rfl rfl ?_)
   refine rn ?_
   (repeat (first | refine uw ?_ | refine uo rfl ?_))
   have e1 := oi h1
   subst e1
   exact ghost_le (le_mk ⟨er rfl, trivial⟩ trivial)
  ·replace h1 := if_f c1 h1
   refine gd_ff rfl rfl rfl (df c1) (ok_move rfl rfl rfl rfl ?_)
   refine gd_ff rfl rfl rfl (df c1) (ok_cmp rfl rfl rfl rfl rfl rfl ?_)
   refine ro rfl (ok_pick_false rfl rfl rfl rfl (df c1) rfl ?_)
   refine ro rfl (ok_move rfl rfl rfl rfl ?_)
   refine gd_D rfl rfl rfl (fun c2 => ?_) (fun c2 => ?_)
   ·replace h1 := if_t c2 h1
    refine gd_ft rfl rfl rfl (dt c2) rfl rfl ?_
    refine gd_ft rfl rfl rfl (dt c2) rfl rfl ?_
    refine ro rfl (ok_pick_true rfl rfl rfl rfl (dt c2) rfl ?_)
    refine ro rfl (ok_move rfl rfl rfl rfl ?_)
    refine gd_ft rfl rfl rfl (rfl) rfl rfl ?_
    refine gd_ft rfl rfl rfl (rfl) rfl rfl ?_
    refine ro rfl (ok_pick_true rfl rfl rfl rfl (rfl) rfl ?_)
    refine ro rfl (ok_assign rfl rfl rfl rfl ?_)
    refine rn ?_
    (repeat (first | refine uw ?_ | refine uo rfl ?_))
    have e1 := oi h1
    subst e1
    exact ghost_le (le_mk ⟨er rfl, trivial⟩ trivial)
   ·replace h1 := if_f c2 h1
    refine gd_ff rfl rfl rfl (df c2) (ok_move rfl rfl rfl rfl ?_)
    refine gd_ff rfl rfl rfl (df c2) (ok_cmp rfl rfl rfl rfl rfl rfl ?_)
    refine ro rfl (ok_pick_false rfl rfl rfl rfl (df c2) rfl ?_)
    refine ro rfl (ok_move rfl rfl rfl rfl ?_)
    refine gd_D rfl rfl rfl (fun c3 => ?_) (fun c3 => ?_)
    ·replace h1 := if_t c3 h1
     refine gd_ft rfl rfl rfl (dt c3) rfl rfl ?_
     refine gd_ft rfl rfl rfl (dt c3) rfl rfl ?_
     refine ro rfl (ok_pick_true rfl rfl rfl rfl (dt c3) rfl ?_)
     refine ro rfl (ok_assign rfl rfl rfl rfl ?_)
     refine rn ?_
     (repeat (first | refine uw ?_ | refine uo rfl ?_))
     have e1 := oi h1
     subst e1
     exact ghost_le (le_mk ⟨er rfl, trivial⟩ trivial)
    ·replace h1 := if_f c3 h1
     refine gd_ff rfl rfl rfl (df c3) (ok_move rfl rfl rfl rfl ?_)
     obtain ⟨r4, e5, h1⟩ := bd_cut h1
     refine gd_ff rfl rfl rfl (df c3) (ok_callP (ref14_loop_ok k_0 _ e5) rfl rfl rfl rfl ⟨sr, trivial⟩ Try.call78 rfl ?_)
     refine ro rfl (ok_pick_false rfl rfl rfl rfl (df c3) rfl ?_)
     refine ro rfl (ok_assign rfl rfl rfl rfl ?_)
     refine rn ?_
     (repeat (first | refine uw ?_ | refine uo rfl ?_))
     have e1 := oi h1
     subst e1
     exact ghost_le (le_mk ⟨er rfl, trivial⟩ trivial)

def ref14_kids (k_0 : Int) (n_1 : Int) : Option Bool :=
 (
   if k_0 = 1 then
    some (decide (k_0 = 1))
   else
    some (decide (k_0 = 3))
  : Option Bool).bind fun t2 =>
 if t2 = true then
  some (decide (n_1 = 0))
 else
  if k_0 = 2 then
   some (decide (1 ≤ n_1))
  else
   (
     if k_0 = 4 then
      some (decide (k_0 = 4))
     else
      some (decide (k_0 = 6))
    : Option Bool).bind fun t6 =>
   if t6 = true then
    some (decide (n_1 = 1))
   else
    (
      if k_0 = 5 then
       some (decide (k_0 = 5))
      else
       some (decide (k_0 = 7))
     : Option Bool).bind fun t9 =>
    if t9 = true then
     some (decide (n_1 = 2))
    else
     if k_0 = 8 then
      some (decide (n_1 = 3))
     else
      (
        if k_0 = 9 then
         some (decide (k_0 = 9))
        else
         some (decide (k_0 = 10))
       : Option Bool).bind fun t13 =>
      if t13 = true then
       some true
      else
       if k_0 = 11 then
        ck ((2 : Int) ≠ 0) <|
        some (decide (n_1.tmod 2 = 0))
       else
        if k_0 = 12 then
         (
           if n_1 = 2 then
            some true
           else
            some (decide (n_1 = 3))
          : Option Bool).bind fun t19 =>
         some t19
        else
         if k_0 = 13 then
          (
            if n_1 = 3 then
             some true
            else
             some (decide (n_1 = 4))
           : Option Bool).bind fun t22 =>
          some t22
         else
          some false

set_option maxHeartbeats 4000000 in
theorem ref14_kids_ok (k_0 : Int) (n_1 : Int) (r : Bool) (h0 : ref14_kids k_0 n_1 = some r) : PCalls Try.prog 77 [eI k_0, eI n_1] (· = .p (eB r)) := by
 unfold ref14_kids at h0
 refine pbodyA good Try.func77 rfl rfl rfl fun w0 => ?_
 refine awp_seq (awp_reg ?_)
 refine ro rfl (ok_assign rfl rfl rfl rfl ?_)
 refine rn ?_
 refine awp_seq (awp_seq (awp_reg ?_))
 refine ro rfl (ok_move rfl rfl rfl rfl ?_)
 refine rn ?_
 refine awp_block (awp_seq ?_)
 obtain ⟨o29, h1, h0⟩ := bd_cut h0
 refine awp_joinN ⟨[(1, .p (eI n_1)), (5, .p (eI k_0)), (6, .p (eB o29))], []⟩ ?_ ?_
 ·intro s' hle
  (repeat (first | refine uw ?_ | refine uo rfl ?_))
  refine awp_ghost hle ?_
  refine wp_if rfl (fun c3 => ?_) (fun c3 => ?_)
  ·replace h0 := if_t c3 h0
   refine awp_seq (awp_reg ?_)
   refine ro rfl (ok_move rfl rfl rfl rfl ?_)
   refine ro rfl (ok_cmp rfl rfl rfl rfl rfl rfl ?_)
   refine ro rfl (ok_assign rfl rfl rfl rfl ?_)
   refine rn ?_
   refine awp_ret ?_
   (repeat (first | refine uw ?_ | refine uo rfl ?_))
   have e0 := oi h0
   subst e0
   refine reta_mk rfl ?_
   exact sr
  ·replace h0 := if_bf c3 h0
   refine awp_seq (awp_reg ?_)
   refine ro rfl (ok_cmp rfl rfl rfl rfl rfl rfl ?_)
   refine ro rfl (ok_assign rfl rfl rfl rfl ?_)
   refine rn ?_
   refine wp_ifD rfl (fun c4 => ?_) (fun c4 => ?_)
   ·replace h0 := if_t c4 h0
    refine awp_seq (awp_reg ?_)
    refine ro rfl (ok_move rfl rfl rfl rfl ?_)
    refine ro rfl (ok_cmp rfl rfl rfl rfl rfl rfl ?_)
    refine ro rfl (ok_assign rfl rfl rfl rfl ?_)
    refine rn ?_
    refine awp_ret ?_
    (repeat (first | refine uw ?_ | refine uo rfl ?_))
    have e0 := oi h0
    subst e0
    refine reta_mk rfl ?_
    exact sr
   ·replace h0 := if_f c4 h0
    refine awp_seq ?_
    obtain ⟨o31, h1, h0⟩ := bd_cut h0
    refine awp_joinN ⟨[(1, .p (eI n_1)), (5, .p (eI k_0)), (15, .p (eB o31))], []⟩ ?_ ?_
    ·intro s' hle
     (repeat (first | refine uw ?_ | refine uo rfl ?_))
     refine awp_ghost hle ?_
     refine wp_if rfl (fun c7 => ?_) (fun c7 => ?_)
     ·replace h0 := if_t c7 h0
      refine awp_seq (awp_reg ?_)
      refine ro rfl (ok_move rfl rfl rfl rfl ?_)
      refine ro rfl (ok_cmp rfl rfl rfl rfl rfl rfl ?_)
      refine ro rfl (ok_assign rfl rfl rfl rfl ?_)
      refine rn ?_
      refine awp_ret ?_
      (repeat (first | refine uw ?_ | refine uo rfl ?_))
      have e0 := oi h0
      subst e0
      refine reta_mk rfl ?_
      exact sr
     ·replace h0 := if_bf c7 h0
      refine awp_seq ?_
      obtain ⟨o33, h1, h0⟩ := bd_cut h0
      refine awp_joinN ⟨[(1, .p (eI n_1)), (5, .p (eI k_0)), (20, .p (eB o33))], []⟩ ?_ ?_
      ·intro s' hle
       (repeat (first | refine uw ?_ | refine uo rfl ?_))
       refine awp_ghost hle ?_
       refine wp_if rfl (fun c10 => ?_) (fun c10 => ?_)
       ·replace h0 := if_t c10 h0
        refine awp_seq (awp_reg ?_)
        refine ro rfl (ok_move rfl rfl rfl rfl ?_)
        refine ro rfl (ok_cmp rfl rfl rfl rfl rfl rfl ?_)
        refine ro rfl (ok_assign rfl rfl rfl rfl ?_)
        refine rn ?_
        refine awp_ret ?_
        (repeat (first | refine uw ?_ | refine uo rfl ?_))
        have e0 := oi h0
        subst e0
        refine reta_mk rfl ?_
        exact sr
       ·replace h0 := if_bf c10 h0
        refine awp_seq (awp_reg ?_)
        refine ro rfl (ok_cmp rfl rfl rfl rfl rfl rfl ?_)
        refine ro rfl (ok_assign rfl rfl rfl rfl ?_)
        refine rn ?_
        refine wp_ifD rfl (fun c11 => ?_) (fun c11 => ?_)
        ·replace h0 := if_t c11 h0
         refine awp_seq (awp_reg ?_)
         refine ro rfl (ok_move rfl rfl rfl rfl ?_)
         refine ro rfl (ok_cmp rfl rfl rfl rfl rfl rfl ?_)
         refine ro rfl (ok_assign rfl rfl rfl rfl ?_)
         refine rn ?_
         refine awp_ret ?_
         (repeat (first | refine uw ?_ | refine uo rfl ?_))
         have e0 := oi h0
         subst e0
         refine reta_mk rfl ?_
         exact sr
        ·replace h0 := if_f c11 h0
         refine awp_seq ?_
         obtain ⟨o35, h1, h0⟩ := bd_cut h0
         refine awp_joinN ⟨[(1, .p (eI n_1)), (5, .p (eI k_0)), (29, .p (eB o35))], []⟩ ?_ ?_
         ·intro s' hle
          (repeat (first | refine uw ?_ | refine uo rfl ?_))
          refine awp_ghost hle ?_
          refine wp_if rfl (fun c14 => ?_) (fun c14 => ?_)
          ·replace h0 := if_t c14 h0
           refine awp_seq (awp_reg ?_)
           refine ro rfl (ok_assign rfl rfl rfl rfl ?_)
           refine rn ?_
           refine awp_ret ?_
           (repeat (first | refine uw ?_ | refine uo rfl ?_))
           have e0 := oi h0
           subst e0
           refine reta_mk rfl ?_
           exact sr
          ·replace h0 := if_bf c14 h0
           refine awp_seq (awp_reg ?_)
           refine ro rfl (ok_cmp rfl rfl rfl rfl rfl rfl ?_)
           refine ro rfl (ok_assign rfl rfl rfl rfl ?_)
           refine rn ?_
           refine wp_ifD rfl (fun c15 => ?_) (fun c15 => ?_)
           ·replace h0 := if_t c15 h0
            refine awp_seq (awp_reg ?_)
            refine ro rfl (ok_move rfl rfl rfl rfl ?_)
            obtain ⟨h16, h0⟩ := ck_cut h0
            refine ro rfl (ok_dv rfl rfl rfl rfl rfl rfl h16 ?_)
            refine ro rfl (ok_cmp rfl rfl rfl rfl rfl rfl ?_)
            refine ro rfl (ok_assign rfl rfl rfl rfl ?_)
            refine rn ?_
            refine awp_ret ?_
            (repeat (first | refine uw ?_ | refine uo rfl ?_))
            have e0 := oi h0
            subst e0
            refine reta_mk rfl ?_
            exact sr
           ·replace h0 := if_f c15 h0
            refine awp_seq (awp_reg ?_)
            refine ro rfl (ok_cmp rfl rfl rfl rfl rfl rfl ?_)
            refine ro rfl (ok_assign rfl rfl rfl rfl ?_)
            refine rn ?_
            refine wp_ifD rfl (fun c17 => ?_) (fun c17 => ?_)
            ·replace h0 := if_t c17 h0
             refine awp_seq ?_
             obtain ⟨o37, h1, h0⟩ := bd_cut h0
             refine awp_joinN ⟨[(4, .p (eB o37))], []⟩ ?_ ?_
             ·intro s' hle
              (repeat (first | refine uw ?_ | refine uo rfl ?_))
              refine awp_ghost hle ?_
              refine awp_ret ?_
              (repeat (first | refine uw ?_ | refine uo rfl ?_))
              have e0 := oi h0
              subst e0
              refine reta_mk rfl ?_
              exact sr
             ·skip
              refine awp_reg ?_
              refine ro rfl (ok_move rfl rfl rfl rfl ?_)
              refine ro rfl (ok_cmp rfl rfl rfl rfl rfl rfl ?_)
              refine ro rfl (ok_move rfl rfl rfl rfl ?_)
              refine gd_D rfl rfl rfl (fun c18 => ?_) (fun c18 => ?_)
              ·replace h1 := if_t c18 h1
               refine gd_ft rfl rfl rfl (dt c18) rfl rfl ?_
               refine gd_ft rfl rfl rfl (dt c18) rfl rfl ?_
               refine ro rfl (ok_pick_true rfl rfl rfl rfl (dt c18) rfl ?_)
               refine ro rfl (ok_assign rfl rfl rfl rfl ?_)
               refine rn ?_
               (repeat (first | refine uw ?_ | refine uo rfl ?_))
               have e1 := oi h1
               subst e1
               exact ghost_le (le_mk ⟨er rfl, trivial⟩ trivial)
              ·replace h1 := if_f c18 h1
               refine gd_ff rfl rfl rfl (df c18) (ok_move rfl rfl rfl rfl ?_)
               refine gd_ff rfl rfl rfl (df c18) (ok_cmp rfl rfl rfl rfl rfl rfl ?_)
               refine ro rfl (ok_pick_false rfl rfl rfl rfl (df c18) rfl ?_)
               refine ro rfl (ok_assign rfl rfl rfl rfl ?_)
               refine rn ?_
               (repeat (first | refine uw ?_ | refine uo rfl ?_))
               have e1 := oi h1
               subst e1
               exact ghost_le (le_mk ⟨er rfl, trivial⟩ trivial)
            ·replace h0 := if_f c17 h0
             refine awp_seq (awp_reg ?_)
             refine ro rfl (ok_cmp rfl rfl rfl rfl rfl rfl ?_)
             refine ro rfl (ok_assign rfl rfl rfl rfl ?_)
             refine rn ?_
             refine wp_ifD rfl (fun c20 => ?_) (fun c20 => ?_)
             ·replace h0 := if_t c20 h0
              refine awp_seq ?_
              obtain ⟨o39, h1, h0⟩ := bd_cut h0
              refine awp_joinN ⟨[(4, .p (eB o39))], []⟩ ?_ ?_
              ·intro s' hle
               (repeat (first | refine uw ?_ | refine uo rfl ?_))
               refine awp_ghost hle ?_
               refine awp_ret ?_
               (repeat (first | refine uw ?_ | refine uo rfl ?_))
               have e0 := oi h0
               subst e0
               refine reta_mk rfl ?_
               exact sr
              ·skip
               refine awp_reg ?_
               refine ro rfl (ok_move rfl rfl rfl rfl ?_)
               refine ro rfl (ok_cmp rfl rfl rfl rfl rfl rfl ?_)
               refine ro rfl (ok_move rfl rfl rfl rfl ?_)
               refine gd_D rfl rfl rfl (fun c21 => ?_) (fun c21 => ?_)
               ·replace h1 := if_t c21 h1
                refine gd_ft rfl rfl rfl (dt c21) rfl rfl ?_
                refine gd_ft rfl rfl rfl (dt c21) rfl rfl ?_
                refine ro rfl (ok_pick_true rfl rfl rfl rfl (dt c21) rfl ?_)
                refine ro rfl (ok_assign rfl rfl rfl rfl ?_)
                refine rn ?_
                (repeat (first | refine uw ?_ | refine uo rfl ?_))
                have e1 := oi h1
                subst e1
                exact ghost_le (le_mk ⟨er rfl, trivial⟩ trivial)
               ·replace h1 := if_f c21 h1
                refine gd_ff rfl rfl rfl (df c21) (ok_move rfl rfl rfl rfl ?_)
                refine gd_ff rfl rfl rfl (df c21) (ok_cmp rfl rfl rfl rfl rfl rfl ?_)
                refine ro rfl (ok_pick_false rfl rfl rfl rfl (df c21) rfl ?_)
                refine ro rfl (ok_assign rfl rfl rfl rfl ?_)
                refine rn ?_
                (repeat (first | refine uw ?_ | refine uo rfl ?_))
                have e1 := oi h1
                subst e1
                exact ghost_le (le_mk ⟨er rfl, trivial⟩ trivial)
             ·replace h0 := if_f c20 h0
              refine awp_skip ?_
              (repeat (first | refine uw ?_ | refine uo rfl ?_))
              refine awp_seq (awp_reg ?_)
              refine ro rfl (ok_assign rfl rfl rfl rfl ?_)
              refine rn ?_
              refine awp_ret ?_
              (repeat (first | refine uw ?_ | refine uo rfl ?_))
              have e0 := oi h0
              subst e0
              refine reta_mk rfl ?_
              exact sr
         ·skip
          refine awp_seq (awp_reg ?_)
          refine ro rfl (ok_cmp rfl rfl rfl rfl rfl rfl ?_)
          refine ro rfl (ok_assign rfl rfl rfl rfl ?_)
          refine rn ?_
          refine wp_ifD rfl (fun c12 => ?_) (fun c12 => ?_)
          ·replace h1 := if_t c12 h1
           refine awp_skip ?_
           (repeat (first | refine uw ?_ | refine uo rfl ?_))
           have e1 := oi h1
           subst e1
           exact ghost_le (le_mk ⟨er rfl, er rfl, er rfl, trivial⟩ trivial)
          ·replace h1 := if_f c12 h1
           refine awp_reg ?_
           refine ro rfl (ok_cmp rfl rfl rfl rfl rfl rfl ?_)
           refine ro rfl (ok_assign rfl rfl rfl rfl ?_)
           refine rn ?_
           (repeat (first | refine uw ?_ | refine uo rfl ?_))
           have e1 := oi h1
           subst e1
           exact ghost_le (le_mk ⟨er rfl, er rfl, er rfl, trivial⟩ trivial)
      ·skip
       refine awp_seq (awp_reg ?_)
       refine ro rfl (ok_cmp rfl rfl rfl rfl rfl rfl ?_)
       refine ro rfl (ok_assign rfl rfl rfl rfl ?_)
       refine rn ?_
       refine wp_ifD rfl (fun c8 => ?_) (fun c8 => ?_)
       ·replace h1 := if_t c8 h1
        refine awp_skip ?_
        (repeat (first | refine uw ?_ | refine uo rfl ?_))
        have e1 := oi h1
        subst e1
        exact ghost_le (le_mk ⟨er rfl, er rfl, er rfl, trivial⟩ trivial)
       ·replace h1 := if_f c8 h1
        refine awp_reg ?_
        refine ro rfl (ok_cmp rfl rfl rfl rfl rfl rfl ?_)
        refine ro rfl (ok_assign rfl rfl rfl rfl ?_)
        refine rn ?_
        (repeat (first | refine uw ?_ | refine uo rfl ?_))
        have e1 := oi h1
        subst e1
        exact ghost_le (le_mk ⟨er rfl, er rfl, er rfl, trivial⟩ trivial)
    ·skip
     refine awp_seq (awp_reg ?_)
     refine ro rfl (ok_cmp rfl rfl rfl rfl rfl rfl ?_)
     refine ro rfl (ok_assign rfl rfl rfl rfl ?_)
     refine rn ?_
     refine wp_ifD rfl (fun c5 => ?_) (fun c5 => ?_)
     ·replace h1 := if_t c5 h1
      refine awp_skip ?_
      (repeat (first | refine uw ?_ | refine uo rfl ?_))
      have e1 := oi h1
      subst e1
      exact ghost_le (le_mk ⟨er rfl, er rfl, er rfl, trivial⟩ trivial)
     ·replace h1 := if_f c5 h1
      refine awp_reg ?_
      refine ro rfl (ok_cmp rfl rfl rfl rfl rfl rfl ?_)
      refine ro rfl (ok_assign rfl rfl rfl rfl ?_)
      refine rn ?_
      (repeat (first | refine uw ?_ | refine uo rfl ?_))
      have e1 := oi h1
      subst e1
      exact ghost_le (le_mk ⟨er rfl, er rfl, er rfl, trivial⟩ trivial)
 ·skip
  refine awp_seq (awp_reg ?_)
  refine ro rfl (ok_cmp rfl rfl rfl rfl rfl rfl ?_)
  refine ro rfl (ok_assign rfl rfl rfl rfl ?_)
  refine rn ?_
  refine wp_ifD rfl (fun c1 => ?_) (fun c1 => ?_)
  ·replace h1 := if_t c1 h1
   refine awp_skip ?_
   (repeat (first | refine uw ?_ | refine uo rfl ?_))
   have e1 := oi h1
   subst e1
   exact ghost_le (le_mk ⟨er rfl, er rfl, er rfl, trivial⟩ trivial)
  ·replace h1 := if_f c1 h1
   refine awp_reg ?_
   refine ro rfl (ok_cmp rfl rfl rfl rfl rfl rfl ?_)
   refine ro rfl (ok_assign rfl rfl rfl rfl ?_)
   refine rn ?_
   (repeat (first | refine uw ?_ | refine uo rfl ?_))
   have e1 := oi h1
   subst e1
   exact ghost_le (le_mk ⟨er rfl, er rfl, er rfl, trivial⟩ trivial)

def ref14_zero (v_0 : TValue) : Option Bool :=
 (
   if v_0.fKind = 0 then
    if v_0.fNum = 0 then
     if v_0.fStr = ([] : Bytes) then
      if (v_0.fItems.length : Int) = 0 then
       some (decide ((v_0.fKeys.length : Int) = 0))
      else
       some false
     else
      some false
    else
     some false
   else
    some false
  : Option Bool).bind fun t5 =>
 some t5

set_option maxHeartbeats 4000000 in
theorem ref14_zero_ok (v_0 : TValue) (r : Bool) (h0 : ref14_zero v_0 = some r) : PCalls Try.prog 79 [.agg (TValue.cs v_0)] (· = .p (eB r)) := by
 unfold ref14_zero at h0
 refine pbodyA good Try.func79 rfl rfl rfl fun w0 => ?_
 refine awp_seq (awp_reg ?_)
 refine ro rfl (ok_box rfl rfl rfl rfl rfl ?_)
 refine ro rfl (ok_assign rfl rfl rfl rfl ?_)
 refine rn ?_
 refine awp_seq ?_
 obtain ⟨o7, h1, h0⟩ := bd_cut h0
 refine awp_joinN ⟨[(2, .p (eB o7))], []⟩ ?_ ?_
 ·intro s' hle
  (repeat (first | refine uw ?_ | refine uo rfl ?_))
  refine awp_ghost hle ?_
  refine awp_ret ?_
  (repeat (first | refine uw ?_ | refine uo rfl ?_))
  have e0 := oi h0
  subst e0
  refine reta_mk rfl ?_
  exact sr
 ·skip
  refine awp_reg ?_
  refine ro rfl (ok_fieldAddrP rfl rfl rfl rfl rfl rfl rfl rfl rfl ?_)
  refine ro rfl (ok_loadP1 rfl rfl rfl rfl rfl rfl rfl rfl ?_)
  refine ro rfl (ok_cmp rfl rfl rfl rfl rfl rfl ?_)
  refine ro rfl (ok_move rfl rfl rfl rfl ?_)
  refine gd_D rfl rfl rfl (fun c1 => ?_) (fun c1 => ?_)
  ·replace h1 := if_t c1 h1
   refine gd_tt rfl rfl rfl (dt c1) (ok_fieldAddrP rfl rfl rfl rfl rfl rfl rfl rfl rfl ?_)
   refine gd_tt rfl rfl rfl (dt c1) (ok_loadP1 rfl rfl rfl rfl rfl rfl rfl rfl ?_)
   refine gd_tt rfl rfl rfl (dt c1) (ok_cmp rfl rfl rfl rfl rfl rfl ?_)
   refine ro rfl (ok_pick_true rfl rfl rfl rfl (dt c1) rfl ?_)
   refine ro rfl (ok_move rfl rfl rfl rfl ?_)
   refine gd_D rfl rfl rfl (fun c2 => ?_) (fun c2 => ?_)
   ·replace h1 := if_t c2 h1
    refine gd_tt rfl rfl rfl (dt c2) (ok_fieldAddrP rfl rfl rfl rfl rfl rfl rfl rfl rfl ?_)
    refine gd_tt rfl rfl rfl (dt c2) (ok_loadP1 rfl rfl rfl rfl rfl rfl rfl rfl ?_)
    refine gd_tt rfl rfl rfl (dt c2) (ok_cmpS rfl rfl rfl rfl rfl rfl ?_)
    refine ro rfl (ok_pick_true rfl rfl rfl rfl (dt c2) rfl ?_)
    refine ro rfl (ok_move rfl rfl rfl rfl ?_)
    refine gd_D rfl rfl rfl (fun c3 => ?_) (fun c3 => ?_)
    ·replace h1 := if_t c3 h1
     refine gd_tt rfl rfl rfl (dt c3) (ok_fieldAddrP rfl rfl rfl rfl rfl rfl rfl rfl rfl ?_)
     refine gd_tt rfl rfl rfl (dt c3) (ok_loadP1 rfl rfl rfl rfl rfl rfl rfl rfl ?_)
     refine gd_tt rfl rfl rfl (dt c3) (op_lenL (f := eTValue) (l := v_0.fItems) rfl rfl rfl rfl rfl rfl rfl ?_)
     refine gd_tt rfl rfl rfl (dt c3) (ok_cmp rfl rfl rfl rfl rfl rfl ?_)
     refine ro rfl (ok_pick_true rfl rfl rfl rfl (dt c3) rfl ?_)
     refine ro rfl (ok_move rfl rfl rfl rfl ?_)
     refine gd_D rfl rfl rfl (fun c4 => ?_) (fun c4 => ?_)
     ·replace h1 := if_t c4 h1
      refine gd_tt rfl rfl rfl (dt c4) (ok_fieldAddrP rfl rfl rfl rfl rfl rfl rfl rfl rfl ?_)
      refine gd_tt rfl rfl rfl (dt c4) (ok_loadP1 rfl rfl rfl rfl rfl rfl rfl rfl ?_)
      refine gd_tt rfl rfl rfl (dt c4) (op_lenL (f := eS) (l := v_0.fKeys) rfl rfl rfl rfl rfl rfl rfl ?_)
      refine gd_tt rfl rfl rfl (dt c4) (ok_cmp rfl rfl rfl rfl rfl rfl ?_)
      refine ro rfl (ok_pick_true rfl rfl rfl rfl (dt c4) rfl ?_)
      refine ro rfl (ok_assign rfl rfl rfl rfl ?_)
      refine rn ?_
      (repeat (first | refine uw ?_ | refine uo rfl ?_))
      have e1 := oi h1
      subst e1
      exact ghost_le (le_mk ⟨er rfl, trivial⟩ trivial)
     ·replace h1 := if_f c4 h1
      refine gd_tf rfl rfl rfl (df c4) rfl rfl ?_
      refine gd_tf rfl rfl rfl (df c4) rfl rfl ?_
      refine gd_tf rfl rfl rfl (df c4) rfl rfl ?_
      refine gd_tf rfl rfl rfl (df c4) rfl rfl ?_
      refine ro rfl (ok_pick_false rfl rfl rfl rfl (df c4) rfl ?_)
      refine ro rfl (ok_assign rfl rfl rfl rfl ?_)
      refine rn ?_
      (repeat (first | refine uw ?_ | refine uo rfl ?_))
      have e1 := oi h1
      subst e1
      exact ghost_le (le_mk ⟨er rfl, trivial⟩ trivial)
    ·replace h1 := if_f c3 h1
     refine gd_tf rfl rfl rfl (df c3) rfl rfl ?_
     refine gd_tf rfl rfl rfl (df c3) rfl rfl ?_
     refine gd_tf rfl rfl rfl (df c3) rfl rfl ?_
     refine gd_tf rfl rfl rfl (df c3) rfl rfl ?_
     refine ro rfl (ok_pick_false rfl rfl rfl rfl (df c3) rfl ?_)
     refine ro rfl (ok_move rfl rfl rfl rfl ?_)
     refine gd_tf rfl rfl rfl (rfl) rfl rfl ?_
     refine gd_tf rfl rfl rfl (rfl) rfl rfl ?_
     refine gd_tf rfl rfl rfl (rfl) rfl rfl ?_
     refine gd_tf rfl rfl rfl (rfl) rfl rfl ?_
     refine ro rfl (ok_pick_false rfl rfl rfl rfl (rfl) rfl ?_)
     refine ro rfl (ok_assign rfl rfl rfl rfl ?_)
     refine rn ?_
     (repeat (first | refine uw ?_ | refine uo rfl ?_))
     have e1 := oi h1
     subst e1
     exact ghost_le (le_mk ⟨er rfl, trivial⟩ trivial)
   ·replace h1 := if_f c2 h1
    refine gd_tf rfl rfl rfl (df c2) rfl rfl ?_
    refine gd_tf rfl rfl rfl (df c2) rfl rfl ?_
    refine gd_tf rfl rfl rfl (df c2) rfl rfl ?_
    refine ro rfl (ok_pick_false rfl rfl rfl rfl (df c2) rfl ?_)
    refine ro rfl (ok_move rfl rfl rfl rfl ?_)
    refine gd_tf rfl rfl rfl (rfl) rfl rfl ?_
    refine gd_tf rfl rfl rfl (rfl) rfl rfl ?_
    refine gd_tf rfl rfl rfl (rfl) rfl rfl ?_
    refine gd_tf rfl rfl rfl (rfl) rfl rfl ?_
    refine ro rfl (ok_pick_false rfl rfl rfl rfl (rfl) rfl ?_)
    refine ro rfl (ok_move rfl rfl rfl rfl ?_)
    refine gd_tf rfl rfl rfl (rfl) rfl rfl ?_
    refine gd_tf rfl rfl rfl (rfl) rfl rfl ?_
    refine gd_tf rfl rfl rfl (rfl) rfl rfl ?_
    refine gd_tf rfl rfl rfl (rfl) rfl rfl ?_
    refine ro rfl (ok_pick_false rfl rfl rfl rfl (rfl) rfl ?_)
    refine ro rfl (ok_assign rfl rfl rfl rfl ?_)
    refine rn ?_
    (repeat (first | refine uw ?_ | refine uo rfl ?_))
    have e1 := oi h1
    subst e1
    exact ghost_le (le_mk ⟨er rfl, trivial⟩ trivial)
  ·replace h1 := if_f c1 h1
   refine gd_tf rfl rfl rfl (df c1) rfl rfl ?_
   refine gd_tf rfl rfl rfl (df c1) rfl rfl ?_
   refine gd_tf rfl rfl rfl (df c1) rfl rfl ?_
   refine ro rfl (ok_pick_false rfl rfl rfl rfl (df c1) rfl ?_)
   refine ro rfl (ok_move rfl rfl rfl rfl ?_)
   refine gd_tf rfl rfl rfl (rfl) rfl rfl ?_
   refine gd_tf rfl rfl rfl (rfl) rfl rfl ?_
   refine gd_tf rfl rfl rfl (rfl) rfl rfl ?_
   refine ro rfl (ok_pick_false rfl rfl rfl rfl (rfl) rfl ?_)
   refine ro rfl (ok_move rfl rfl rfl rfl ?_)
   refine gd_tf rfl rfl rfl (rfl) rfl rfl ?_
   refine gd_tf rfl rfl rfl (rfl) rfl rfl ?_
   refine gd_tf rfl rfl rfl (rfl) rfl rfl ?_
   refine gd_tf rfl rfl rfl (rfl) rfl rfl ?_
   refine ro rfl (ok_pick_false rfl rfl rfl rfl (rfl) rfl ?_)
   refine ro rfl (ok_move rfl rfl rfl rfl ?_)
   refine gd_tf rfl rfl rfl (rfl) rfl rfl ?_
   refine gd_tf rfl rfl rfl (rfl) rfl rfl ?_
   refine gd_tf rfl rfl rfl (rfl) rfl rfl ?_
   refine gd_tf rfl rfl rfl (rfl) rfl rfl ?_
   refine ro rfl (ok_pick_false rfl rfl rfl rfl (rfl) rfl ?_)
   refine ro rfl (ok_assign rfl rfl rfl rfl ?_)
   refine rn ?_
   (repeat (first | refine uw ?_ | refine uo rfl ?_))
   have e1 := oi h1
   subst e1
   exact ghost_le (le_mk ⟨er rfl, trivial⟩ trivial)

def ref14_shaped (e_0 : TExpr) : Option Bool :=
 (
   (ref14_kids e_0.fKind (e_0.fKids.length : Int)).bind fun r1 =>
   if (!r1) = true then
    some true
   else
    (ref14_loop e_0.fKind).bind fun r4 =>
    if (!r4) = true then
     if e_0.fKey = ([] : Bytes) then
      (ref14_named e_0.fKind).bind fun r8 =>
      if (!r8) = true then
       some (!decide (e_0.fName = ([] : Bytes)))
      else
       some false
     else
      some true
    else
     (ref14_named e_0.fKind).bind fun r11 =>
     if (!r11) = true then
      some (!decide (e_0.fName = ([] : Bytes)))
     else
      some false
  : Option Bool).bind fun t14 =>
 if t14 = true then
  some false
 else
  if e_0.fKind = 1 then
   (
     if e_0.fOp = 0 then
      if e_0.fValue.fKind = 0 then
       some true
      else
       if e_0.fValue.fKind = 1 then
        some true
       else
        if e_0.fValue.fKind = 3 then
         some true
        else
         if e_0.fValue.fKind = 2 then
          some (decide (0 ≤ e_0.fValue.fNum))
         else
          some false
     else
      some false
    : Option Bool).bind fun t22 =>
   some t22
  else
   (ref14_zero e_0.fValue).bind fun r23 =>
   if (!r23) = true then
    some false
   else
    if e_0.fKind = 6 then
     (
       if e_0.fOp = 1 then
        some true
       else
        some (decide (e_0.fOp = 2))
      : Option Bool).bind fun t28 =>
     some t28
    else
     if e_0.fKind = 7 then
      (
        if 3 ≤ e_0.fOp then
         some (decide (e_0.fOp ≤ 15))
        else
         some false
       : Option Bool).bind fun t31 =>
      some t31
     else
      some (decide (e_0.fOp = 0))

set_option maxHeartbeats 4000000 in
theorem ref14_shaped_ok (e_0 : TExpr) (r : Bool) (h0 : ref14_shaped e_0 = some r) : PCalls Try.prog 66 [.agg (TExpr.cs e_0)] (· = .p (eB r)) := by
 unfold ref14_shaped at h0
 refine pbodyA good Try.func66 rfl rfl rfl fun w0 => ?_
 refine awp_seq (awp_reg ?_)
 refine ro rfl (ok_box rfl rfl rfl rfl rfl ?_)
 refine ro rfl (ok_assign rfl rfl rfl rfl ?_)
 refine rn ?_
 refine awp_seq (awp_seq ?_)
 obtain ⟨o36, h1, h0⟩ := bd_cut h0
 refine awp_joinN ⟨[(1, .ptr 1 0), (32, .p (eB o36))], [(1, [.p (eI e_0.fKind), .p (eI e_0.fOp), .p (eS e_0.fName), .p (eS e_0.fKey), .p (eI e_0.fValue.fKind), .p (eI e_0.fValue.fNum), .p (eS e_0.fValue.fStr), .p (eL eTValue e_0.fValue.fItems), .p (eL eS e_0.fValue.fKeys), .p (eL eTExpr e_0.fKids), .p (eI e_0.fAt)])]⟩ ?_ ?_
 ·intro s' hle
  (repeat (first | refine uw ?_ | refine uo rfl ?_))
  refine awp_ghost hle ?_
  refine wp_if rfl (fun c15 => ?_) (fun c15 => ?_)
  ·replace h0 := if_t c15 h0
   refine awp_seq (awp_reg ?_)
   refine ro rfl (ok_assign rfl rfl rfl rfl ?_)
   refine rn ?_
   refine awp_ret ?_
   (repeat (first | refine uw ?_ | refine uo rfl ?_))
   have e0 := oi h0
   subst e0
   refine reta_mk rfl ?_
   exact sr
  ·replace h0 := if_bf c15 h0
   refine awp_skip (awp_seq (awp_seq (awp_reg ?_)))
   refine ro rfl (ok_fieldAddrP rfl rfl rfl rfl rfl rfl rfl rfl rfl ?_)
   refine ro rfl (ok_loadP1 rfl rfl rfl rfl rfl rfl rfl rfl ?_)
   refine ro rfl (ok_cmp rfl rfl rfl rfl rfl rfl ?_)
   refine rn ?_
   refine wp_ifD rfl (fun c16 => ?_) (fun c16 => ?_)
   ·replace h0 := if_t c16 h0
    refine awp_seq (awp_reg ?_)
    refine ro rfl (ok_fieldAddrP rfl rfl rfl rfl rfl rfl rfl rfl rfl ?_)
    refine ro rfl (ok_fieldAddrP rfl rfl rfl rfl rfl rfl rfl rfl rfl ?_)
    refine ro rfl (ok_loadP1 rfl rfl rfl rfl rfl rfl rfl rfl ?_)
    refine ro rfl (ok_assign rfl rfl rfl rfl ?_)
    refine rn ?_
    refine awp_seq ?_
    obtain ⟨o38, h1, h0⟩ := bd_cut h0
    refine awp_joinN ⟨[(2, .p (eB o38))], []⟩ ?_ ?_
    ·intro s' hle
     (repeat (first | refine uw ?_ | refine uo rfl ?_))
     refine awp_ghost hle ?_
     refine awp_ret ?_
     (repeat (first | refine uw ?_ | refine uo rfl ?_))
     have e0 := oi h0
     subst e0
     refine reta_mk rfl ?_
     exact sr
    ·skip
     refine awp_reg ?_
     refine ro rfl (ok_fieldAddrP rfl rfl rfl rfl rfl rfl rfl rfl rfl ?_)
     refine ro rfl (ok_loadP1 rfl rfl rfl rfl rfl rfl rfl rfl ?_)
     refine ro rfl (ok_cmp rfl rfl rfl rfl rfl rfl ?_)
     refine ro rfl (ok_move rfl rfl rfl rfl ?_)
     refine gd_D rfl rfl rfl (fun c17 => ?_) (fun c17 => ?_)
     ·replace h1 := if_t c17 h1
      refine gd_tt rfl rfl rfl (dt c17) (ok_move rfl rfl rfl rfl ?_)
      refine gd_tt rfl rfl rfl (dt c17) (ok_cmp rfl rfl rfl rfl rfl rfl ?_)
      refine gd_tt rfl rfl rfl (dt c17) (ok_move rfl rfl rfl rfl ?_)
      refine gd_D rfl rfl rfl (fun c18 => ?_) (fun c18 => ?_)
      ·replace h1 := if_t c18 h1
       refine gd_ft rfl rfl rfl (dt c18) rfl rfl ?_
       refine gd_ft rfl rfl rfl (dt c18) rfl rfl ?_
       refine gd_tt rfl rfl rfl (dt c17) (ok_pick_true rfl rfl rfl rfl (dt c18) rfl ?_)
       refine gd_tt rfl rfl rfl (dt c17) (ok_move rfl rfl rfl rfl ?_)
       refine gd_ft rfl rfl rfl (rfl) rfl rfl ?_
       refine gd_ft rfl rfl rfl (rfl) rfl rfl ?_
       refine gd_tt rfl rfl rfl (dt c17) (ok_pick_true rfl rfl rfl rfl (rfl) rfl ?_)
       refine gd_tt rfl rfl rfl (dt c17) (ok_move rfl rfl rfl rfl ?_)
       refine gd_ft rfl rfl rfl (rfl) rfl rfl ?_
       refine gd_ft rfl rfl rfl (rfl) rfl rfl ?_
       refine gd_ft rfl rfl rfl (rfl) rfl rfl ?_
       refine gd_none rfl rfl rfl rfl rfl ?_
       refine gd_none rfl rfl rfl rfl rfl ?_
       refine gd_none rfl rfl rfl rfl rfl ?_
       refine gd_none rfl rfl rfl rfl rfl ?_
       refine gd_ft rfl rfl rfl (rfl) rfl rfl ?_
       refine gd_tt rfl rfl rfl (dt c17) (ok_pick_true rfl rfl rfl rfl (rfl) rfl ?_)
       refine ro rfl (ok_pick_true rfl rfl rfl rfl (dt c17) rfl ?_)
       refine ro rfl (ok_assign rfl rfl rfl rfl ?_)
       refine rn ?_
       (repeat (first | refine uw ?_ | refine uo rfl ?_))
       have e1 := oi h1
       subst e1
       exact ghost_le (le_mk ⟨er rfl, trivial⟩ trivial)
      ·replace h1 := if_f c18 h1
       refine gd_ff rfl rfl rfl (df c18) (ok_move rfl rfl rfl rfl ?_)
       refine gd_ff rfl rfl rfl (df c18) (ok_cmp rfl rfl rfl rfl rfl rfl ?_)
       refine gd_tt rfl rfl rfl (dt c17) (ok_pick_false rfl rfl rfl rfl (df c18) rfl ?_)
       refine gd_tt rfl rfl rfl (dt c17) (ok_move rfl rfl rfl rfl ?_)
       refine gd_D rfl rfl rfl (fun c19 => ?_) (fun c19 => ?_)
       ·replace h1 := if_t c19 h1
        refine gd_ft rfl rfl rfl (dt c19) rfl rfl ?_
        refine gd_ft rfl rfl rfl (dt c19) rfl rfl ?_
        refine gd_tt rfl rfl rfl (dt c17) (ok_pick_true rfl rfl rfl rfl (dt c19) rfl ?_)
        refine gd_tt rfl rfl rfl (dt c17) (ok_move rfl rfl rfl rfl ?_)
        refine gd_ft rfl rfl rfl (rfl) rfl rfl ?_
        refine gd_ft rfl rfl rfl (rfl) rfl rfl ?_
        refine gd_ft rfl rfl rfl (rfl) rfl rfl ?_
        refine gd_none rfl rfl rfl rfl rfl ?_
        refine gd_none rfl rfl rfl rfl rfl ?_
        refine gd_none rfl rfl rfl rfl rfl ?_
        refine gd_none rfl rfl rfl rfl rfl ?_
        refine gd_ft rfl rfl rfl (rfl) rfl rfl ?_
        refine gd_tt rfl rfl rfl (dt c17) (ok_pick_true rfl rfl rfl rfl (rfl) rfl ?_)
        refine ro rfl (ok_pick_true rfl rfl rfl rfl (dt c17) rfl ?_)
        refine ro rfl (ok_assign rfl rfl rfl rfl ?_)
        refine rn ?_
        (repeat (first | refine uw ?_ | refine uo rfl ?_))
        have e1 := oi h1
        subst e1
        exact ghost_le (le_mk ⟨er rfl, trivial⟩ trivial)
       ·replace h1 := if_f c19 h1
        refine gd_ff rfl rfl rfl (df c19) (ok_move rfl rfl rfl rfl ?_)
        refine gd_ff rfl rfl rfl (df c19) (ok_cmp rfl rfl rfl rfl rfl rfl ?_)
        refine gd_tt rfl rfl rfl (dt c17) (ok_pick_false rfl rfl rfl rfl (df c19) rfl ?_)
        refine gd_tt rfl rfl rfl (dt c17) (ok_move rfl rfl rfl rfl ?_)
        refine gd_D rfl rfl rfl (fun c20 => ?_) (fun c20 => ?_)
        ·replace h1 := if_t c20 h1
         refine gd_ft rfl rfl rfl (dt c20) rfl rfl ?_
         refine gd_ft rfl rfl rfl (dt c20) rfl rfl ?_
         refine gd_ft rfl rfl rfl (dt c20) rfl rfl ?_
         refine gd_none rfl rfl rfl rfl rfl ?_
         refine gd_none rfl rfl rfl rfl rfl ?_
         refine gd_none rfl rfl rfl rfl rfl ?_
         refine gd_none rfl rfl rfl rfl rfl ?_
         refine gd_ft rfl rfl rfl (dt c20) rfl rfl ?_
         refine gd_tt rfl rfl rfl (dt c17) (ok_pick_true rfl rfl rfl rfl (dt c20) rfl ?_)
         refine ro rfl (ok_pick_true rfl rfl rfl rfl (dt c17) rfl ?_)
         refine ro rfl (ok_assign rfl rfl rfl rfl ?_)
         refine rn ?_
         (repeat (first | refine uw ?_ | refine uo rfl ?_))
         have e1 := oi h1
         subst e1
         exact ghost_le (le_mk ⟨er rfl, trivial⟩ trivial)
        ·replace h1 := if_f c20 h1
         refine gd_ff rfl rfl rfl (df c20) (ok_move rfl rfl rfl rfl ?_)
         refine gd_ff rfl rfl rfl (df c20) (ok_cmp rfl rfl rfl rfl rfl rfl ?_)
         refine gd_ff rfl rfl rfl (df c20) (ok_move rfl rfl rfl rfl ?_)
         refine gd_D rfl rfl rfl (fun c21 => ?_) (fun c21 => ?_)
         ·replace h1 := if_t c21 h1
          refine gd_tt rfl rfl rfl (dt c21) (ok_fieldAddrP rfl rfl rfl rfl rfl rfl rfl rfl rfl ?_)
          refine gd_tt rfl rfl rfl (dt c21) (ok_fieldAddrP rfl rfl rfl rfl rfl rfl rfl rfl rfl ?_)
          refine gd_tt rfl rfl rfl (dt c21) (ok_loadP1 rfl rfl rfl rfl rfl rfl rfl rfl ?_)
          refine gd_tt rfl rfl rfl (dt c21) (ok_cmp rfl rfl rfl rfl rfl rfl ?_)
          refine gd_ff rfl rfl rfl (df c20) (ok_pick_true rfl rfl rfl rfl (dt c21) rfl ?_)
          refine gd_tt rfl rfl rfl (dt c17) (ok_pick_false rfl rfl rfl rfl (df c20) rfl ?_)
          refine ro rfl (ok_pick_true rfl rfl rfl rfl (dt c17) rfl ?_)
          refine ro rfl (ok_assign rfl rfl rfl rfl ?_)
          refine rn ?_
          (repeat (first | refine uw ?_ | refine uo rfl ?_))
          have e1 := oi h1
          subst e1
          exact ghost_le (le_mk ⟨er rfl, trivial⟩ trivial)
         ·replace h1 := if_f c21 h1
          refine gd_tf rfl rfl rfl (df c21) rfl rfl ?_
          refine gd_tf rfl rfl rfl (df c21) rfl rfl ?_
          refine gd_tf rfl rfl rfl (df c21) rfl rfl ?_
          refine gd_tf rfl rfl rfl (df c21) rfl rfl ?_
          refine gd_ff rfl rfl rfl (df c20) (ok_pick_false rfl rfl rfl rfl (df c21) rfl ?_)
          refine gd_tt rfl rfl rfl (dt c17) (ok_pick_false rfl rfl rfl rfl (df c20) rfl ?_)
          refine ro rfl (ok_pick_true rfl rfl rfl rfl (dt c17) rfl ?_)
          refine ro rfl (ok_assign rfl rfl rfl rfl ?_)
          refine rn ?_
          (repeat (first | refine uw ?_ | refine uo rfl ?_))
          have e1 := oi h1
          subst e1
          exact ghost_le (le_mk ⟨er rfl, trivial⟩ trivial)
     ·replace h1 := if_f c17 h1
      refine gd_tf rfl rfl rfl (df c17) rfl rfl ?_
      refine gd_tf rfl rfl rfl (df c17) rfl rfl ?_
      refine gd_tf rfl rfl rfl (df c17) rfl rfl ?_
      refine gd_none rfl rfl rfl rfl rfl ?_
      refine gd_none rfl rfl rfl rfl rfl ?_
      refine gd_tf rfl rfl rfl (df c17) rfl rfl ?_
      refine gd_tf rfl rfl rfl (df c17) rfl rfl ?_
      refine gd_none rfl rfl rfl rfl rfl ?_
      refine gd_none rfl rfl rfl rfl rfl ?_
      refine gd_tf rfl rfl rfl (df c17) rfl rfl ?_
      refine gd_tf rfl rfl rfl (df c17) rfl rfl ?_
      refine gd_none rfl rfl rfl rfl rfl ?_
      refine gd_none rfl rfl rfl rfl rfl ?_
      refine gd_none rfl rfl rfl rfl rfl ?_
      refine gd_none rfl rfl rfl rfl rfl ?_
      refine gd_none rfl rfl rfl rfl rfl ?_
      refine gd_none rfl rfl rfl rfl rfl ?_
      refine gd_none rfl rfl rfl rfl rfl ?_
      refine gd_none rfl rfl rfl rfl rfl ?_
      refine gd_tf rfl rfl rfl (df c17) rfl rfl ?_
      refine ro rfl (ok_pick_false rfl rfl rfl rfl (df c17) rfl ?_)
      refine ro rfl (ok_assign rfl rfl rfl rfl ?_)
      refine rn ?_
      (repeat (first | refine uw ?_ | refine uo rfl ?_))
      have e1 := oi h1
      subst e1
      exact ghost_le (le_mk ⟨er rfl, trivial⟩ trivial)
   ·replace h0 := if_f c16 h0
    refine awp_skip (awp_seq (awp_seq (awp_reg ?_)))
    refine ro rfl (ok_fieldAddrP rfl rfl rfl rfl rfl rfl rfl rfl rfl ?_)
    refine ro rfl (ok_loadPA rfl rfl rfl rfl rfl rfl rfl rfl rfl ?_)
    obtain ⟨r23, e24, h0⟩ := bd_cut h0
    refine ro rfl (ok_callP (ref14_zero_ok e_0.fValue _ e24) rfl rfl rfl rfl ⟨sr, trivial⟩ Try.call79 rfl ?_)
    refine ro rfl (ok_not rfl rfl rfl rfl ?_)
    refine rn ?_
    refine wp_if rfl (fun c25 => ?_) (fun c25 => ?_)
    ·replace h0 := if_t c25 h0
     refine awp_seq (awp_reg ?_)
     refine ro rfl (ok_assign rfl rfl rfl rfl ?_)
     refine rn ?_
     refine awp_ret ?_
     (repeat (first | refine uw ?_ | refine uo rfl ?_))
     have e0 := oi h0
     subst e0
     refine reta_mk rfl ?_
     exact sr
    ·replace h0 := if_bf c25 h0
     refine awp_skip (awp_seq (awp_seq (awp_reg ?_)))
     refine ro rfl (ok_fieldAddrP rfl rfl rfl rfl rfl rfl rfl rfl rfl ?_)
     refine ro rfl (ok_loadP1 rfl rfl rfl rfl rfl rfl rfl rfl ?_)
     refine rn ?_
     refine awp_block (awp_seq (awp_reg ?_))
     refine ro rfl (ok_cmp rfl rfl rfl rfl rfl rfl ?_)
     refine ro rfl (ok_assign rfl rfl rfl rfl ?_)
     refine rn ?_
     refine wp_ifD rfl (fun c26 => ?_) (fun c26 => ?_)
     ·replace h0 := if_t c26 h0
      refine awp_seq ?_
      obtain ⟨o40, h1, h0⟩ := bd_cut h0
      refine awp_joinN ⟨[(2, .p (eB o40))], []⟩ ?_ ?_
      ·intro s' hle
       (repeat (first | refine uw ?_ | refine uo rfl ?_))
       refine awp_ghost hle ?_
       refine awp_ret ?_
       (repeat (first | refine uw ?_ | refine uo rfl ?_))
       have e0 := oi h0
       subst e0
       refine reta_mk rfl ?_
       exact sr
      ·skip
       refine awp_reg ?_
       refine ro rfl (ok_fieldAddrP rfl rfl rfl rfl rfl rfl rfl rfl rfl ?_)
       refine ro rfl (ok_loadP1 rfl rfl rfl rfl rfl rfl rfl rfl ?_)
       refine ro rfl (ok_cmp rfl rfl rfl rfl rfl rfl ?_)
       refine ro rfl (ok_move rfl rfl rfl rfl ?_)
       refine gd_D rfl rfl rfl (fun c27 => ?_) (fun c27 => ?_)
       ·replace h1 := if_t c27 h1
        refine gd_ft rfl rfl rfl (dt c27) rfl rfl ?_
        refine gd_ft rfl rfl rfl (dt c27) rfl rfl ?_
        refine gd_ft rfl rfl rfl (dt c27) rfl rfl ?_
        refine ro rfl (ok_pick_true rfl rfl rfl rfl (dt c27) rfl ?_)
        refine ro rfl (ok_assign rfl rfl rfl rfl ?_)
        refine rn ?_
        (repeat (first | refine uw ?_ | refine uo rfl ?_))
        have e1 := oi h1
        subst e1
        exact ghost_le (le_mk ⟨er rfl, trivial⟩ trivial)
       ·replace h1 := if_f c27 h1
        refine gd_ff rfl rfl rfl (df c27) (ok_fieldAddrP rfl rfl rfl rfl rfl rfl rfl rfl rfl ?_)
        refine gd_ff rfl rfl rfl (df c27) (ok_loadP1 rfl rfl rfl rfl rfl rfl rfl rfl ?_)
        refine gd_ff rfl rfl rfl (df c27) (ok_cmp rfl rfl rfl rfl rfl rfl ?_)
        refine ro rfl (ok_pick_false rfl rfl rfl rfl (df c27) rfl ?_)
        refine ro rfl (ok_assign rfl rfl rfl rfl ?_)
        refine rn ?_
        (repeat (first | refine uw ?_ | refine uo rfl ?_))
        have e1 := oi h1
        subst e1
        exact ghost_le (le_mk ⟨er rfl, trivial⟩ trivial)
     ·replace h0 := if_f c26 h0
      refine awp_seq (awp_reg ?_)
      refine ro rfl (ok_cmp rfl rfl rfl rfl rfl rfl ?_)
      refine ro rfl (ok_assign rfl rfl rfl rfl ?_)
      refine rn ?_
      refine wp_ifD rfl (fun c29 => ?_) (fun c29 => ?_)
      ·replace h0 := if_t c29 h0
       refine awp_seq ?_
       obtain ⟨o42, h1, h0⟩ := bd_cut h0
       refine awp_joinN ⟨[(2, .p (eB o42))], []⟩ ?_ ?_
       ·intro s' hle
        (repeat (first | refine uw ?_ | refine uo rfl ?_))
        refine awp_ghost hle ?_
        refine awp_ret ?_
        (repeat (first | refine uw ?_ | refine uo rfl ?_))
        have e0 := oi h0
        subst e0
        refine reta_mk rfl ?_
        exact sr
       ·skip
        refine awp_reg ?_
        refine ro rfl (ok_fieldAddrP rfl rfl rfl rfl rfl rfl rfl rfl rfl ?_)
        refine ro rfl (ok_loadP1 rfl rfl rfl rfl rfl rfl rfl rfl ?_)
        refine ro rfl (ok_cmp rfl rfl rfl rfl rfl rfl ?_)
        refine ro rfl (ok_move rfl rfl rfl rfl ?_)
        refine gd_D rfl rfl rfl (fun c30 => ?_) (fun c30 => ?_)
        ·replace h1 := if_t c30 h1
         refine gd_tt rfl rfl rfl (dt c30) (ok_fieldAddrP rfl rfl rfl rfl rfl rfl rfl rfl rfl ?_)
         refine gd_tt rfl rfl rfl (dt c30) (ok_loadP1 rfl rfl rfl rfl rfl rfl rfl rfl ?_)
         refine gd_tt rfl rfl rfl (dt c30) (ok_cmp rfl rfl rfl rfl rfl rfl ?_)
         refine ro rfl (ok_pick_true rfl rfl rfl rfl (dt c30) rfl ?_)
         refine ro rfl (ok_assign rfl rfl rfl rfl ?_)
         refine rn ?_
         (repeat (first | refine uw ?_ | refine uo rfl ?_))
         have e1 := oi h1
         subst e1
         exact ghost_le (le_mk ⟨er rfl, trivial⟩ trivial)
        ·replace h1 := if_f c30 h1
         refine gd_tf rfl rfl rfl (df c30) rfl rfl ?_
         refine gd_tf rfl rfl rfl (df c30) rfl rfl ?_
         refine gd_tf rfl rfl rfl (df c30) rfl rfl ?_
         refine ro rfl (ok_pick_false rfl rfl rfl rfl (df c30) rfl ?_)
         refine ro rfl (ok_assign rfl rfl rfl rfl ?_)
         refine rn ?_
         (repeat (first | refine uw ?_ | refine uo rfl ?_))
         have e1 := oi h1
         subst e1
         exact ghost_le (le_mk ⟨er rfl, trivial⟩ trivial)
      ·replace h0 := if_f c29 h0
       refine awp_skip ?_
       (repeat (first | refine uw ?_ | refine uo rfl ?_))
       refine awp_seq (awp_reg ?_)
       refine ro rfl (ok_fieldAddrP rfl rfl rfl rfl rfl rfl rfl rfl rfl ?_)
       refine ro rfl (ok_loadP1 rfl rfl rfl rfl rfl rfl rfl rfl ?_)
       refine ro rfl (ok_cmp rfl rfl rfl rfl rfl rfl ?_)
       refine ro rfl (ok_assign rfl rfl rfl rfl ?_)
       refine rn ?_
       refine awp_ret ?_
       (repeat (first | refine uw ?_ | refine uo rfl ?_))
       have e0 := oi h0
       subst e0
       refine reta_mk rfl ?_
       exact sr
 ·skip
  refine awp_reg ?_
  refine ro rfl (ok_fieldAddrP rfl rfl rfl rfl rfl rfl rfl rfl rfl ?_)
  refine ro rfl (ok_loadP1 rfl rfl rfl rfl rfl rfl rfl rfl ?_)
  refine ro rfl (ok_fieldAddrP rfl rfl rfl rfl rfl rfl rfl rfl rfl ?_)
  refine ro rfl (ok_loadP1 rfl rfl rfl rfl rfl rfl rfl rfl ?_)
  refine ro rfl (op_lenL (f := eTExpr) (l := e_0.fKids) rfl rfl rfl rfl rfl rfl rfl ?_)
  obtain ⟨r1, e2, h1⟩ := bd_cut h1
  refine ro rfl (ok_callP (ref14_kids_ok e_0.fKind (e_0.fKids.length : Int) _ e2) rfl rfl rfl rfl ⟨sr, sr, trivial⟩ Try.call77 rfl ?_)
  refine ro rfl (ok_not rfl rfl rfl rfl ?_)
  refine ro rfl (ok_move rfl rfl rfl rfl ?_)
  refine gd_B rfl rfl rfl (fun c3 => ?_) (fun c3 => ?_)
  ·replace h1 := if_t c3 h1
   refine gd_ft rfl rfl rfl (c3) rfl rfl ?_
   refine gd_ft rfl rfl rfl (c3) rfl rfl ?_
   refine gd_ft rfl rfl rfl (c3) rfl rfl ?_
   refine gd_ft rfl rfl rfl (c3) rfl rfl ?_
   refine gd_ft rfl rfl rfl (c3) rfl rfl ?_
   refine gd_none rfl rfl rfl rfl rfl ?_
   refine gd_none rfl rfl rfl rfl rfl ?_
   refine gd_none rfl rfl rfl rfl rfl ?_
   refine gd_ft rfl rfl rfl (c3) rfl rfl ?_
   refine ro rfl (ok_pick_true rfl rfl rfl rfl (c3) rfl ?_)
   refine ro rfl (ok_move rfl rfl rfl rfl ?_)
   refine gd_ft rfl rfl rfl (rfl) rfl rfl ?_
   refine gd_ft rfl rfl rfl (rfl) rfl rfl ?_
   refine gd_ft rfl rfl rfl (rfl) rfl rfl ?_
   refine gd_ft rfl rfl rfl (rfl) rfl rfl ?_
   refine gd_ft rfl rfl rfl (rfl) rfl rfl ?_
   refine gd_none rfl rfl rfl rfl rfl ?_
   refine gd_none rfl rfl rfl rfl rfl ?_
   refine gd_none rfl rfl rfl rfl rfl ?_
   refine gd_ft rfl rfl rfl (rfl) rfl rfl ?_
   refine ro rfl (ok_pick_true rfl rfl rfl rfl (rfl) rfl ?_)
   refine rn ?_
   (repeat (first | refine uw ?_ | refine uo rfl ?_))
   have e1 := oi h1
   subst e1
   exact ghost_le (le_mk ⟨er rfl, er rfl, trivial⟩ ⟨⟨_, rfl, ⟨sr, sr, sr, sr, sr, sr, sr, sr, sr, sr, sr, trivial⟩⟩, trivial⟩)
  ·replace h1 := if_bf c3 h1
   refine gd_ff rfl rfl rfl (c3) (ok_fieldAddrP rfl rfl rfl rfl rfl rfl rfl rfl rfl ?_)
   refine gd_ff rfl rfl rfl (c3) (ok_loadP1 rfl rfl rfl rfl rfl rfl rfl rfl ?_)
   obtain ⟨r4, e5, h1⟩ := bd_cut h1
   refine gd_ff rfl rfl rfl (c3) (ok_callP (ref14_loop_ok e_0.fKind _ e5) rfl rfl rfl rfl ⟨sr, trivial⟩ Try.call78 rfl ?_)
   refine gd_ff rfl rfl rfl (c3) (ok_not rfl rfl rfl rfl ?_)
   refine gd_ff rfl rfl rfl (c3) (ok_move rfl rfl rfl rfl ?_)
   refine gd_B rfl rfl rfl (fun c6 => ?_) (fun c6 => ?_)
   ·replace h1 := if_t c6 h1
    refine gd_tt rfl rfl rfl (c6) (ok_fieldAddrP rfl rfl rfl rfl rfl rfl rfl rfl rfl ?_)
    refine gd_tt rfl rfl rfl (c6) (ok_loadP1 rfl rfl rfl rfl rfl rfl rfl rfl ?_)
    refine gd_tt rfl rfl rfl (c6) (ok_cmpS rfl rfl rfl rfl rfl rfl ?_)
    refine gd_ff rfl rfl rfl (c3) (ok_pick_true rfl rfl rfl rfl (c6) rfl ?_)
    refine ro rfl (ok_pick_false rfl rfl rfl rfl (c3) rfl ?_)
    refine ro rfl (ok_move rfl rfl rfl rfl ?_)
    refine gd_N rfl rfl rfl (fun c7 => ?_) (fun c7 => ?_)
    ·replace h1 := if_t c7 h1
     refine gd_ff rfl rfl rfl (nd_false c7) (ok_fieldAddrP rfl rfl rfl rfl rfl rfl rfl rfl rfl ?_)
     refine gd_ff rfl rfl rfl (nd_false c7) (ok_loadP1 rfl rfl rfl rfl rfl rfl rfl rfl ?_)
     obtain ⟨r8, e9, h1⟩ := bd_cut h1
     refine gd_ff rfl rfl rfl (nd_false c7) (ok_callP (ref14_named_ok e_0.fKind _ e9) rfl rfl rfl rfl ⟨sr, trivial⟩ Try.call68 rfl ?_)
     refine gd_ff rfl rfl rfl (nd_false c7) (ok_not rfl rfl rfl rfl ?_)
     refine gd_ff rfl rfl rfl (nd_false c7) (ok_move rfl rfl rfl rfl ?_)
     refine gd_B rfl rfl rfl (fun c10 => ?_) (fun c10 => ?_)
     ·replace h1 := if_t c10 h1
      refine gd_tt rfl rfl rfl (c10) (ok_fieldAddrP rfl rfl rfl rfl rfl rfl rfl rfl rfl ?_)
      refine gd_tt rfl rfl rfl (c10) (ok_loadP1 rfl rfl rfl rfl rfl rfl rfl rfl ?_)
      refine gd_tt rfl rfl rfl (c10) (ok_cmpS rfl rfl rfl rfl rfl rfl ?_)
      refine gd_ff rfl rfl rfl (nd_false c7) (ok_pick_true rfl rfl rfl rfl (c10) rfl ?_)
      refine ro rfl (ok_pick_false rfl rfl rfl rfl (nd_false c7) rfl ?_)
      refine rn ?_
      (repeat (first | refine uw ?_ | refine uo rfl ?_))
      have e1 := oi h1
      subst e1
      exact ghost_le (le_mk ⟨er rfl, er rfl, trivial⟩ ⟨⟨_, rfl, ⟨sr, sr, sr, sr, sr, sr, sr, sr, sr, sr, sr, trivial⟩⟩, trivial⟩)
     ·replace h1 := if_bf c10 h1
      refine gd_tf rfl rfl rfl (c10) rfl rfl ?_
      refine gd_tf rfl rfl rfl (c10) rfl rfl ?_
      refine gd_tf rfl rfl rfl (c10) rfl rfl ?_
      refine gd_ff rfl rfl rfl (nd_false c7) (ok_pick_false rfl rfl rfl rfl (c10) rfl ?_)
      refine ro rfl (ok_pick_false rfl rfl rfl rfl (nd_false c7) rfl ?_)
      refine rn ?_
      (repeat (first | refine uw ?_ | refine uo rfl ?_))
      have e1 := oi h1
      subst e1
      exact ghost_le (le_mk ⟨er rfl, er rfl, trivial⟩ ⟨⟨_, rfl, ⟨sr, sr, sr, sr, sr, sr, sr, sr, sr, sr, sr, trivial⟩⟩, trivial⟩)
    ·replace h1 := if_f c7 h1
     refine gd_ft rfl rfl rfl (nd_true c7) rfl rfl ?_
     refine gd_ft rfl rfl rfl (nd_true c7) rfl rfl ?_
     refine gd_ft rfl rfl rfl (nd_true c7) rfl rfl ?_
     refine gd_ft rfl rfl rfl (nd_true c7) rfl rfl ?_
     refine gd_ft rfl rfl rfl (nd_true c7) rfl rfl ?_
     refine gd_none rfl rfl rfl rfl rfl ?_
     refine gd_none rfl rfl rfl rfl rfl ?_
     refine gd_none rfl rfl rfl rfl rfl ?_
     refine gd_ft rfl rfl rfl (nd_true c7) rfl rfl ?_
     refine ro rfl (ok_pick_true rfl rfl rfl rfl (nd_true c7) rfl ?_)
     refine rn ?_
     (repeat (first | refine uw ?_ | refine uo rfl ?_))
     have e1 := oi h1
     subst e1
     exact ghost_le (le_mk ⟨er rfl, er rfl, trivial⟩ ⟨⟨_, rfl, ⟨sr, sr, sr, sr, sr, sr, sr, sr, sr, sr, sr, trivial⟩⟩, trivial⟩)
   ·replace h1 := if_bf c6 h1
    refine gd_tf rfl rfl rfl (c6) rfl rfl ?_
    refine gd_tf rfl rfl rfl (c6) rfl rfl ?_
    refine gd_tf rfl rfl rfl (c6) rfl rfl ?_
    refine gd_ff rfl rfl rfl (c3) (ok_pick_false rfl rfl rfl rfl (c6) rfl ?_)
    refine ro rfl (ok_pick_false rfl rfl rfl rfl (c3) rfl ?_)
    refine ro rfl (ok_move rfl rfl rfl rfl ?_)
    refine gd_ff rfl rfl rfl (rfl) (ok_fieldAddrP rfl rfl rfl rfl rfl rfl rfl rfl rfl ?_)
    refine gd_ff rfl rfl rfl (rfl) (ok_loadP1 rfl rfl rfl rfl rfl rfl rfl rfl ?_)
    obtain ⟨r11, e12, h1⟩ := bd_cut h1
    refine gd_ff rfl rfl rfl (rfl) (ok_callP (ref14_named_ok e_0.fKind _ e12) rfl rfl rfl rfl ⟨sr, trivial⟩ Try.call68 rfl ?_)
    refine gd_ff rfl rfl rfl (rfl) (ok_not rfl rfl rfl rfl ?_)
    refine gd_ff rfl rfl rfl (rfl) (ok_move rfl rfl rfl rfl ?_)
    refine gd_B rfl rfl rfl (fun c13 => ?_) (fun c13 => ?_)
    ·replace h1 := if_t c13 h1
     refine gd_tt rfl rfl rfl (c13) (ok_fieldAddrP rfl rfl rfl rfl rfl rfl rfl rfl rfl ?_)
     refine gd_tt rfl rfl rfl (c13) (ok_loadP1 rfl rfl rfl rfl rfl rfl rfl rfl ?_)
     refine gd_tt rfl rfl rfl (c13) (ok_cmpS rfl rfl rfl rfl rfl rfl ?_)
     refine gd_ff rfl rfl rfl (rfl) (ok_pick_true rfl rfl rfl rfl (c13) rfl ?_)
     refine ro rfl (ok_pick_false rfl rfl rfl rfl (rfl) rfl ?_)
     refine rn ?_
     (repeat (first | refine uw ?_ | refine uo rfl ?_))
     have e1 := oi h1
     subst e1
     exact ghost_le (le_mk ⟨er rfl, er rfl, trivial⟩ ⟨⟨_, rfl, ⟨sr, sr, sr, sr, sr, sr, sr, sr, sr, sr, sr, trivial⟩⟩, trivial⟩)
    ·replace h1 := if_bf c13 h1
     refine gd_tf rfl rfl rfl (c13) rfl rfl ?_
     refine gd_tf rfl rfl rfl (c13) rfl rfl ?_
     refine gd_tf rfl rfl rfl (c13) rfl rfl ?_
     refine gd_ff rfl rfl rfl (rfl) (ok_pick_false rfl rfl rfl rfl (c13) rfl ?_)
     refine ro rfl (ok_pick_false rfl rfl rfl rfl (rfl) rfl ?_)
     refine rn ?_
     (repeat (first | refine uw ?_ | refine uo rfl ?_))
     have e1 := oi h1
     subst e1
     exact ghost_le (le_mk ⟨er rfl, er rfl, trivial⟩ ⟨⟨_, rfl, ⟨sr, sr, sr, sr, sr, sr, sr, sr, sr, sr, sr, trivial⟩⟩, trivial⟩)

def ref07_shaped (v_0 : TValue) : Option Bool :=
 (
   if v_0.fKind = 2 then
    some true
   else
    if v_0.fKind = 1 then
     if v_0.fNum = 0 then
      some true
     else
      if v_0.fNum = 1 then
       some true
      else
       some (decide (v_0.fNum = 0))
    else
     some (decide (v_0.fNum = 0))
  : Option Bool).bind fun num5 =>
 (
   if v_0.fKind = 3 then
    some true
   else
    some (decide (v_0.fStr = ([] : Bytes)))
  : Option Bool).bind fun str7 =>
 (
   if v_0.fKind = 4 then
    some true
   else
    if v_0.fKind = 5 then
     some true
    else
     some (decide ((v_0.fItems.length : Int) = 0))
  : Option Bool).bind fun items10 =>
 (
   if v_0.fKind = 5 then
    if (v_0.fKeys.length : Int) = (v_0.fItems.length : Int) then
     some true
    else
     some false
   else
    some (decide ((v_0.fKeys.length : Int) = 0))
  : Option Bool).bind fun keys13 =>
 (
   if 0 ≤ v_0.fKind then
    if v_0.fKind ≤ 6 then
     if num5 = true then
      if str7 = true then
       if items10 = true then
        some keys13
       else
        some false
      else
       some false
     else
      some false
    else
     some false
   else
    some false
  : Option Bool).bind fun t19 =>
 some t19

set_option maxHeartbeats 4000000 in
theorem ref07_shaped_ok (v_0 : TValue) (r : Bool) (h0 : ref07_shaped v_0 = some r) : PCalls Try.prog 84 [.agg (TValue.cs v_0)] (· = .p (eB r)) := by
 unfold ref07_shaped at h0
 refine pbodyA good Try.func84 rfl rfl rfl fun w0 => ?_
 refine awp_seq (awp_reg ?_)
 refine ro rfl (ok_box rfl rfl rfl rfl rfl ?_)
 refine ro rfl (ok_assign rfl rfl rfl rfl ?_)
 refine rn ?_
 refine awp_seq ?_
 obtain ⟨o25, h1, h0⟩ := bd_cut h0
 refine awp_joinN ⟨[(1, .ptr 1 0), (3, .p (eB o25))], [(1, [.p (eI v_0.fKind), .p (eI v_0.fNum), .p (eS v_0.fStr), .p (eL eTValue v_0.fItems), .p (eL eS v_0.fKeys)])]⟩ ?_ ?_
 ·intro s' hle
  (repeat (first | refine uw ?_ | refine uo rfl ?_))
  refine awp_ghost hle ?_
  refine awp_seq ?_
  obtain ⟨o27, h1, h0⟩ := bd_cut h0
  refine awp_joinN ⟨[(1, .ptr 1 0), (3, .p (eB o25)), (4, .p (eB o27))], [(1, [.p (eI v_0.fKind), .p (eI v_0.fNum), .p (eS v_0.fStr), .p (eL eTValue v_0.fItems), .p (eL eS v_0.fKeys)])]⟩ ?_ ?_
  ·intro s' hle
   (repeat (first | refine uw ?_ | refine uo rfl ?_))
   refine awp_ghost hle ?_
   refine awp_seq ?_
   obtain ⟨o29, h1, h0⟩ := bd_cut h0
   refine awp_joinN ⟨[(1, .ptr 1 0), (3, .p (eB o25)), (4, .p (eB o27)), (5, .p (eB o29))], [(1, [.p (eI v_0.fKind), .p (eI v_0.fNum), .p (eS v_0.fStr), .p (eL eTValue v_0.fItems), .p (eL eS v_0.fKeys)])]⟩ ?_ ?_
   ·intro s' hle
    (repeat (first | refine uw ?_ | refine uo rfl ?_))
    refine awp_ghost hle ?_
    refine awp_seq ?_
    obtain ⟨o31, h1, h0⟩ := bd_cut h0
    refine awp_joinN ⟨[(1, .ptr 1 0), (3, .p (eB o25)), (4, .p (eB o27)), (5, .p (eB o29)), (6, .p (eB o31))], [(1, [.p (eI v_0.fKind), .p (eI v_0.fNum), .p (eS v_0.fStr), .p (eL eTValue v_0.fItems), .p (eL eS v_0.fKeys)])]⟩ ?_ ?_
    ·intro s' hle
     (repeat (first | refine uw ?_ | refine uo rfl ?_))
     refine awp_ghost hle ?_
     refine awp_seq ?_
     obtain ⟨o33, h1, h0⟩ := bd_cut h0
     refine awp_joinN ⟨[(2, .p (eB o33))], []⟩ ?_ ?_
     ·intro s' hle
      (repeat (first | refine uw ?_ | refine uo rfl ?_))
      refine awp_ghost hle ?_
      refine awp_ret ?_
      (repeat (first | refine uw ?_ | refine uo rfl ?_))
      have e0 := oi h0
      subst e0
      refine reta_mk rfl ?_
      exact sr
     ·skip
      refine awp_reg ?_
      refine ro rfl (ok_fieldAddrP rfl rfl rfl rfl rfl rfl rfl rfl rfl ?_)
      refine ro rfl (ok_loadP1 rfl rfl rfl rfl rfl rfl rfl rfl ?_)
      refine ro rfl (ok_cmp rfl rfl rfl rfl rfl rfl ?_)
      refine ro rfl (ok_move rfl rfl rfl rfl ?_)
      refine gd_D rfl rfl rfl (fun c14 => ?_) (fun c14 => ?_)
      ·replace h1 := if_t c14 h1
       refine gd_tt rfl rfl rfl (dt c14) (ok_fieldAddrP rfl rfl rfl rfl rfl rfl rfl rfl rfl ?_)
       refine gd_tt rfl rfl rfl (dt c14) (ok_loadP1 rfl rfl rfl rfl rfl rfl rfl rfl ?_)
       refine gd_tt rfl rfl rfl (dt c14) (ok_cmp rfl rfl rfl rfl rfl rfl ?_)
       refine ro rfl (ok_pick_true rfl rfl rfl rfl (dt c14) rfl ?_)
       refine ro rfl (ok_move rfl rfl rfl rfl ?_)
       refine gd_D rfl rfl rfl (fun c15 => ?_) (fun c15 => ?_)
       ·replace h1 := if_t c15 h1
        refine gd_tt rfl rfl rfl (dt c15) (ok_move rfl rfl rfl rfl ?_)
        refine ro rfl (ok_pick_true rfl rfl rfl rfl (dt c15) rfl ?_)
        refine ro rfl (ok_move rfl rfl rfl rfl ?_)
        refine gd_B rfl rfl rfl (fun c16 => ?_) (fun c16 => ?_)
        ·replace h1 := if_t c16 h1
         refine gd_tt rfl rfl rfl (c16) (ok_move rfl rfl rfl rfl ?_)
         refine ro rfl (ok_pick_true rfl rfl rfl rfl (c16) rfl ?_)
         refine ro rfl (ok_move rfl rfl rfl rfl ?_)
         refine gd_B rfl rfl rfl (fun c17 => ?_) (fun c17 => ?_)
         ·replace h1 := if_t c17 h1
          refine gd_tt rfl rfl rfl (c17) (ok_move rfl rfl rfl rfl ?_)
          refine ro rfl (ok_pick_true rfl rfl rfl rfl (c17) rfl ?_)
          refine ro rfl (ok_move rfl rfl rfl rfl ?_)
          refine gd_B rfl rfl rfl (fun c18 => ?_) (fun c18 => ?_)
          ·replace h1 := if_t c18 h1
           refine gd_tt rfl rfl rfl (c18) (ok_move rfl rfl rfl rfl ?_)
           refine ro rfl (ok_pick_true rfl rfl rfl rfl (c18) rfl ?_)
           refine ro rfl (ok_assign rfl rfl rfl rfl ?_)
           refine rn ?_
           (repeat (first | refine uw ?_ | refine uo rfl ?_))
           have e1 := oi h1
           subst e1
           exact ghost_le (le_mk ⟨er rfl, trivial⟩ trivial)
          ·replace h1 := if_bf c18 h1
           refine gd_tf rfl rfl rfl (c18) rfl rfl ?_
           refine ro rfl (ok_pick_false rfl rfl rfl rfl (c18) rfl ?_)
           refine ro rfl (ok_assign rfl rfl rfl rfl ?_)
           refine rn ?_
           (repeat (first | refine uw ?_ | refine uo rfl ?_))
           have e1 := oi h1
           subst e1
           exact ghost_le (le_mk ⟨er rfl, trivial⟩ trivial)
         ·replace h1 := if_bf c17 h1
          refine gd_tf rfl rfl rfl (c17) rfl rfl ?_
          refine ro rfl (ok_pick_false rfl rfl rfl rfl (c17) rfl ?_)
          refine ro rfl (ok_move rfl rfl rfl rfl ?_)
          refine gd_tf rfl rfl rfl (rfl) rfl rfl ?_
          refine ro rfl (ok_pick_false rfl rfl rfl rfl (rfl) rfl ?_)
          refine ro rfl (ok_assign rfl rfl rfl rfl ?_)
          refine rn ?_
          (repeat (first | refine uw ?_ | refine uo rfl ?_))
          have e1 := oi h1
          subst e1
          exact ghost_le (le_mk ⟨er rfl, trivial⟩ trivial)
        ·replace h1 := if_bf c16 h1
         refine gd_tf rfl rfl rfl (c16) rfl rfl ?_
         refine ro rfl (ok_pick_false rfl rfl rfl rfl (c16) rfl ?_)
         refine ro rfl (ok_move rfl rfl rfl rfl ?_)
         refine gd_tf rfl rfl rfl (rfl) rfl rfl ?_
         refine ro rfl (ok_pick_false rfl rfl rfl rfl (rfl) rfl ?_)
         refine ro rfl (ok_move rfl rfl rfl rfl ?_)
         refine gd_tf rfl rfl rfl (rfl) rfl rfl ?_
         refine ro rfl (ok_pick_false rfl rfl rfl rfl (rfl) rfl ?_)
         refine ro rfl (ok_assign rfl rfl rfl rfl ?_)
         refine rn ?_
         (repeat (first | refine uw ?_ | refine uo rfl ?_))
         have e1 := oi h1
         subst e1
         exact ghost_le (le_mk ⟨er rfl, trivial⟩ trivial)
       ·replace h1 := if_f c15 h1
        refine gd_tf rfl rfl rfl (df c15) rfl rfl ?_
        refine ro rfl (ok_pick_false rfl rfl rfl rfl (df c15) rfl ?_)
        refine ro rfl (ok_move rfl rfl rfl rfl ?_)
        refine gd_tf rfl rfl rfl (rfl) rfl rfl ?_
        refine ro rfl (ok_pick_false rfl rfl rfl rfl (rfl) rfl ?_)
        refine ro rfl (ok_move rfl rfl rfl rfl ?_)
        refine gd_tf rfl rfl rfl (rfl) rfl rfl ?_
        refine ro rfl (ok_pick_false rfl rfl rfl rfl (rfl) rfl ?_)
        refine ro rfl (ok_move rfl rfl rfl rfl ?_)
        refine gd_tf rfl rfl rfl (rfl) rfl rfl ?_
        refine ro rfl (ok_pick_false rfl rfl rfl rfl (rfl) rfl ?_)
        refine ro rfl (ok_assign rfl rfl rfl rfl ?_)
        refine rn ?_
        (repeat (first | refine uw ?_ | refine uo rfl ?_))
        have e1 := oi h1
        subst e1
        exact ghost_le (le_mk ⟨er rfl, trivial⟩ trivial)
      ·replace h1 := if_f c14 h1
       refine gd_tf rfl rfl rfl (df c14) rfl rfl ?_
       refine gd_tf rfl rfl rfl (df c14) rfl rfl ?_
       refine gd_tf rfl rfl rfl (df c14) rfl rfl ?_
       refine ro rfl (ok_pick_false rfl rfl rfl rfl (df c14) rfl ?_)
       refine ro rfl (ok_move rfl rfl rfl rfl ?_)
       refine gd_tf rfl rfl rfl (rfl) rfl rfl ?_
       refine ro rfl (ok_pick_false rfl rfl rfl rfl (rfl) rfl ?_)
       refine ro rfl (ok_move rfl rfl rfl rfl ?_)
       refine gd_tf rfl rfl rfl (rfl) rfl rfl ?_
       refine ro rfl (ok_pick_false rfl rfl rfl rfl (rfl) rfl ?_)
       refine ro rfl (ok_move rfl rfl rfl rfl ?_)
       refine gd_tf rfl rfl rfl (rfl) rfl rfl ?_
       refine ro rfl (ok_pick_false rfl rfl rfl rfl (rfl) rfl ?_)
       refine ro rfl (ok_move rfl rfl rfl rfl ?_)
       refine gd_tf rfl rfl rfl (rfl) rfl rfl ?_
       refine ro rfl (ok_pick_false rfl rfl rfl rfl (rfl) rfl ?_)
       refine ro rfl (ok_assign rfl rfl rfl rfl ?_)
       refine rn ?_
       (repeat (first | refine uw ?_ | refine uo rfl ?_))
       have e1 := oi h1
       subst e1
       exact ghost_le (le_mk ⟨er rfl, trivial⟩ trivial)
    ·skip
     refine awp_reg ?_
     refine ro rfl (ok_fieldAddrP rfl rfl rfl rfl rfl rfl rfl rfl rfl ?_)
     refine ro rfl (ok_loadP1 rfl rfl rfl rfl rfl rfl rfl rfl ?_)
     refine ro rfl (ok_cmp rfl rfl rfl rfl rfl rfl ?_)
     refine ro rfl (ok_move rfl rfl rfl rfl ?_)
     refine gd_D rfl rfl rfl (fun c11 => ?_) (fun c11 => ?_)
     ·replace h1 := if_t c11 h1
      refine gd_tt rfl rfl rfl (dt c11) (ok_fieldAddrP rfl rfl rfl rfl rfl rfl rfl rfl rfl ?_)
      refine gd_tt rfl rfl rfl (dt c11) (ok_loadP1 rfl rfl rfl rfl rfl rfl rfl rfl ?_)
      refine gd_tt rfl rfl rfl (dt c11) (op_lenL (f := eS) (l := v_0.fKeys) rfl rfl rfl rfl rfl rfl rfl ?_)
      refine gd_tt rfl rfl rfl (dt c11) (ok_fieldAddrP rfl rfl rfl rfl rfl rfl rfl rfl rfl ?_)
      refine gd_tt rfl rfl rfl (dt c11) (ok_loadP1 rfl rfl rfl rfl rfl rfl rfl rfl ?_)
      refine gd_tt rfl rfl rfl (dt c11) (op_lenL (f := eTValue) (l := v_0.fItems) rfl rfl rfl rfl rfl rfl rfl ?_)
      refine gd_tt rfl rfl rfl (dt c11) (ok_cmp rfl rfl rfl rfl rfl rfl ?_)
      refine ro rfl (ok_pick_true rfl rfl rfl rfl (dt c11) rfl ?_)
      refine ro rfl (ok_move rfl rfl rfl rfl ?_)
      refine gd_D rfl rfl rfl (fun c12 => ?_) (fun c12 => ?_)
      ·replace h1 := if_t c12 h1
       refine gd_ft rfl rfl rfl (dt c12) rfl rfl ?_
       refine gd_ft rfl rfl rfl (dt c12) rfl rfl ?_
       refine gd_ft rfl rfl rfl (dt c12) rfl rfl ?_
       refine gd_ft rfl rfl rfl (dt c12) rfl rfl ?_
       refine gd_none rfl rfl rfl rfl rfl ?_
       refine gd_none rfl rfl rfl rfl rfl ?_
       refine gd_none rfl rfl rfl rfl rfl ?_
       refine gd_none rfl rfl rfl rfl rfl ?_
       refine gd_ft rfl rfl rfl (dt c12) rfl rfl ?_
       refine ro rfl (ok_pick_true rfl rfl rfl rfl (dt c12) rfl ?_)
       refine ro rfl (ok_assign rfl rfl rfl rfl ?_)
       refine rn ?_
       (repeat (first | refine uw ?_ | refine uo rfl ?_))
       have e1 := oi h1
       subst e1
       exact ghost_le (le_mk ⟨er rfl, er rfl, er rfl, er rfl, er rfl, trivial⟩ ⟨⟨_, rfl, ⟨sr, sr, sr, sr, sr, trivial⟩⟩, trivial⟩)
      ·replace h1 := if_f c12 h1
       refine gd_ff rfl rfl rfl (df c12) (ok_fieldAddrP rfl rfl rfl rfl rfl rfl rfl rfl rfl ?_)
       refine gd_ff rfl rfl rfl (df c12) (ok_loadP1 rfl rfl rfl rfl rfl rfl rfl rfl ?_)
       refine gd_ff rfl rfl rfl (df c12) (ok_cmp rfl rfl rfl rfl rfl rfl ?_)
       refine gd_ff rfl rfl rfl (df c12) (ok_move rfl rfl rfl rfl ?_)
       refine gd_tf rfl rfl rfl (nd_false c11) rfl rfl ?_
       refine gd_tf rfl rfl rfl (nd_false c11) rfl rfl ?_
       refine gd_tf rfl rfl rfl (nd_false c11) rfl rfl ?_
       refine gd_tf rfl rfl rfl (nd_false c11) rfl rfl ?_
       refine gd_ff rfl rfl rfl (df c12) (ok_pick_false rfl rfl rfl rfl (nd_false c11) rfl ?_)
       refine ro rfl (ok_pick_false rfl rfl rfl rfl (df c12) rfl ?_)
       refine ro rfl (ok_assign rfl rfl rfl rfl ?_)
       refine rn ?_
       (repeat (first | refine uw ?_ | refine uo rfl ?_))
       have e1 := oi h1
       subst e1
       exact ghost_le (le_mk ⟨er rfl, er rfl, er rfl, er rfl, er rfl, trivial⟩ ⟨⟨_, rfl, ⟨sr, sr, sr, sr, sr, trivial⟩⟩, trivial⟩)
     ·replace h1 := if_f c11 h1
      refine gd_tf rfl rfl rfl (df c11) rfl rfl ?_
      refine gd_tf rfl rfl rfl (df c11) rfl rfl ?_
      refine gd_tf rfl rfl rfl (df c11) rfl rfl ?_
      refine gd_tf rfl rfl rfl (df c11) rfl rfl ?_
      refine gd_tf rfl rfl rfl (df c11) rfl rfl ?_
      refine gd_tf rfl rfl rfl (df c11) rfl rfl ?_
      refine gd_tf rfl rfl rfl (df c11) rfl rfl ?_
      refine ro rfl (ok_pick_false rfl rfl rfl rfl (df c11) rfl ?_)
      refine ro rfl (ok_move rfl rfl rfl rfl ?_)
      refine gd_ff rfl rfl rfl (rfl) (ok_fieldAddrP rfl rfl rfl rfl rfl rfl rfl rfl rfl ?_)
      refine gd_ff rfl rfl rfl (rfl) (ok_loadP1 rfl rfl rfl rfl rfl rfl rfl rfl ?_)
      refine gd_ff rfl rfl rfl (rfl) (ok_cmp rfl rfl rfl rfl rfl rfl ?_)
      refine gd_ff rfl rfl rfl (rfl) (ok_move rfl rfl rfl rfl ?_)
      refine gd_tt rfl rfl rfl (nd_true c11) (ok_fieldAddrP rfl rfl rfl rfl rfl rfl rfl rfl rfl ?_)
      refine gd_tt rfl rfl rfl (nd_true c11) (ok_loadP1 rfl rfl rfl rfl rfl rfl rfl rfl ?_)
      refine gd_tt rfl rfl rfl (nd_true c11) (op_lenL (f := eS) (l := v_0.fKeys) rfl rfl rfl rfl rfl rfl rfl ?_)
      refine gd_tt rfl rfl rfl (nd_true c11) (ok_cmp rfl rfl rfl rfl rfl rfl ?_)
      refine gd_ff rfl rfl rfl (rfl) (ok_pick_true rfl rfl rfl rfl (nd_true c11) rfl ?_)
      refine ro rfl (ok_pick_false rfl rfl rfl rfl (rfl) rfl ?_)
      refine ro rfl (ok_assign rfl rfl rfl rfl ?_)
      refine rn ?_
      (repeat (first | refine uw ?_ | refine uo rfl ?_))
      have e1 := oi h1
      subst e1
      exact ghost_le (le_mk ⟨er rfl, er rfl, er rfl, er rfl, er rfl, trivial⟩ ⟨⟨_, rfl, ⟨sr, sr, sr, sr, sr, trivial⟩⟩, trivial⟩)
   ·skip
    refine awp_reg ?_
    refine ro rfl (ok_fieldAddrP rfl rfl rfl rfl rfl rfl rfl rfl rfl ?_)
    refine ro rfl (ok_loadP1 rfl rfl rfl rfl rfl rfl rfl rfl ?_)
    refine ro rfl (ok_cmp rfl rfl rfl rfl rfl rfl ?_)
    refine ro rfl (ok_move rfl rfl rfl rfl ?_)
    refine gd_D rfl rfl rfl (fun c8 => ?_) (fun c8 => ?_)
    ·replace h1 := if_t c8 h1
     refine gd_ft rfl rfl rfl (dt c8) rfl rfl ?_
     refine gd_ft rfl rfl rfl (dt c8) rfl rfl ?_
     refine gd_ft rfl rfl rfl (dt c8) rfl rfl ?_
     refine ro rfl (ok_pick_true rfl rfl rfl rfl (dt c8) rfl ?_)
     refine ro rfl (ok_move rfl rfl rfl rfl ?_)
     refine gd_ft rfl rfl rfl (rfl) rfl rfl ?_
     refine gd_ft rfl rfl rfl (rfl) rfl rfl ?_
     refine gd_ft rfl rfl rfl (rfl) rfl rfl ?_
     refine gd_ft rfl rfl rfl (rfl) rfl rfl ?_
     refine ro rfl (ok_pick_true rfl rfl rfl rfl (rfl) rfl ?_)
     refine ro rfl (ok_assign rfl rfl rfl rfl ?_)
     refine rn ?_
     (repeat (first | refine uw ?_ | refine uo rfl ?_))
     have e1 := oi h1
     subst e1
     exact ghost_le (le_mk ⟨er rfl, er rfl, er rfl, er rfl, trivial⟩ ⟨⟨_, rfl, ⟨sr, sr, sr, sr, sr, trivial⟩⟩, trivial⟩)
    ·replace h1 := if_f c8 h1
     refine gd_ff rfl rfl rfl (df c8) (ok_fieldAddrP rfl rfl rfl rfl rfl rfl rfl rfl rfl ?_)
     refine gd_ff rfl rfl rfl (df c8) (ok_loadP1 rfl rfl rfl rfl rfl rfl rfl rfl ?_)
     refine gd_ff rfl rfl rfl (df c8) (ok_cmp rfl rfl rfl rfl rfl rfl ?_)
     refine ro rfl (ok_pick_false rfl rfl rfl rfl (df c8) rfl ?_)
     refine ro rfl (ok_move rfl rfl rfl rfl ?_)
     refine gd_D rfl rfl rfl (fun c9 => ?_) (fun c9 => ?_)
     ·replace h1 := if_t c9 h1
      refine gd_ft rfl rfl rfl (dt c9) rfl rfl ?_
      refine gd_ft rfl rfl rfl (dt c9) rfl rfl ?_
      refine gd_ft rfl rfl rfl (dt c9) rfl rfl ?_
      refine gd_ft rfl rfl rfl (dt c9) rfl rfl ?_
      refine ro rfl (ok_pick_true rfl rfl rfl rfl (dt c9) rfl ?_)
      refine ro rfl (ok_assign rfl rfl rfl rfl ?_)
      refine rn ?_
      (repeat (first | refine uw ?_ | refine uo rfl ?_))
      have e1 := oi h1
      subst e1
      exact ghost_le (le_mk ⟨er rfl, er rfl, er rfl, er rfl, trivial⟩ ⟨⟨_, rfl, ⟨sr, sr, sr, sr, sr, trivial⟩⟩, trivial⟩)
     ·replace h1 := if_f c9 h1
      refine gd_ff rfl rfl rfl (df c9) (ok_fieldAddrP rfl rfl rfl rfl rfl rfl rfl rfl rfl ?_)
      refine gd_ff rfl rfl rfl (df c9) (ok_loadP1 rfl rfl rfl rfl rfl rfl rfl rfl ?_)
      refine gd_ff rfl rfl rfl (df c9) (op_lenL (f := eTValue) (l := v_0.fItems) rfl rfl rfl rfl rfl rfl rfl ?_)
      refine gd_ff rfl rfl rfl (df c9) (ok_cmp rfl rfl rfl rfl rfl rfl ?_)
      refine ro rfl (ok_pick_false rfl rfl rfl rfl (df c9) rfl ?_)
      refine ro rfl (ok_assign rfl rfl rfl rfl ?_)
      refine rn ?_
      (repeat (first | refine uw ?_ | refine uo rfl ?_))
      have e1 := oi h1
      subst e1
      exact ghost_le (le_mk ⟨er rfl, er rfl, er rfl, er rfl, trivial⟩ ⟨⟨_, rfl, ⟨sr, sr, sr, sr, sr, trivial⟩⟩, trivial⟩)
  ·skip
   refine awp_reg ?_
   refine ro rfl (ok_fieldAddrP rfl rfl rfl rfl rfl rfl rfl rfl rfl ?_)
   refine ro rfl (ok_loadP1 rfl rfl rfl rfl rfl rfl rfl rfl ?_)
   refine ro rfl (ok_cmp rfl rfl rfl rfl rfl rfl ?_)
   refine ro rfl (ok_move rfl rfl rfl rfl ?_)
   refine gd_D rfl rfl rfl (fun c6 => ?_) (fun c6 => ?_)
   ·replace h1 := if_t c6 h1
    refine gd_ft rfl rfl rfl (dt c6) rfl rfl ?_
    refine gd_ft rfl rfl rfl (dt c6) rfl rfl ?_
    refine gd_ft rfl rfl rfl (dt c6) rfl rfl ?_
    refine ro rfl (ok_pick_true rfl rfl rfl rfl (dt c6) rfl ?_)
    refine ro rfl (ok_assign rfl rfl rfl rfl ?_)
    refine rn ?_
    (repeat (first | refine uw ?_ | refine uo rfl ?_))
    have e1 := oi h1
    subst e1
    exact ghost_le (le_mk ⟨er rfl, er rfl, er rfl, trivial⟩ ⟨⟨_, rfl, ⟨sr, sr, sr, sr, sr, trivial⟩⟩, trivial⟩)
   ·replace h1 := if_f c6 h1
    refine gd_ff rfl rfl rfl (df c6) (ok_fieldAddrP rfl rfl rfl rfl rfl rfl rfl rfl rfl ?_)
    refine gd_ff rfl rfl rfl (df c6) (ok_loadP1 rfl rfl rfl rfl rfl rfl rfl rfl ?_)
    refine gd_ff rfl rfl rfl (df c6) (ok_cmpS rfl rfl rfl rfl rfl rfl ?_)
    refine ro rfl (ok_pick_false rfl rfl rfl rfl (df c6) rfl ?_)
    refine ro rfl (ok_assign rfl rfl rfl rfl ?_)
    refine rn ?_
    (repeat (first | refine uw ?_ | refine uo rfl ?_))
    have e1 := oi h1
    subst e1
    exact ghost_le (le_mk ⟨er rfl, er rfl, er rfl, trivial⟩ ⟨⟨_, rfl, ⟨sr, sr, sr, sr, sr, trivial⟩⟩, trivial⟩)
 ·skip
  refine awp_reg ?_
  refine ro rfl (ok_fieldAddrP rfl rfl rfl rfl rfl rfl rfl rfl rfl ?_)
  refine ro rfl (ok_loadP1 rfl rfl rfl rfl rfl rfl rfl rfl ?_)
  refine ro rfl (ok_cmp rfl rfl rfl rfl rfl rfl ?_)
  refine ro rfl (ok_move rfl rfl rfl rfl ?_)
  refine gd_D rfl rfl rfl (fun c1 => ?_) (fun c1 => ?_)
  ·replace h1 := if_t c1 h1
   refine gd_ft rfl rfl rfl (dt c1) rfl rfl ?_
   refine gd_ft rfl rfl rfl (dt c1) rfl rfl ?_
   refine gd_ft rfl rfl rfl (dt c1) rfl rfl ?_
   refine gd_ft rfl rfl rfl (dt c1) rfl rfl ?_
   refine gd_none rfl rfl rfl rfl rfl ?_
   refine gd_none rfl rfl rfl rfl rfl ?_
   refine gd_none rfl rfl rfl rfl rfl ?_
   refine gd_none rfl rfl rfl rfl rfl ?_
   refine gd_none rfl rfl rfl rfl rfl ?_
   refine gd_none rfl rfl rfl rfl rfl ?_
   refine gd_none rfl rfl rfl rfl rfl ?_
   refine gd_none rfl rfl rfl rfl rfl ?_
   refine gd_ft rfl rfl rfl (dt c1) rfl rfl ?_
   refine ro rfl (ok_pick_true rfl rfl rfl rfl (dt c1) rfl ?_)
   refine ro rfl (ok_move rfl rfl rfl rfl ?_)
   refine gd_ft rfl rfl rfl (rfl) rfl rfl ?_
   refine gd_ft rfl rfl rfl (rfl) rfl rfl ?_
   refine gd_ft rfl rfl rfl (rfl) rfl rfl ?_
   refine ro rfl (ok_pick_true rfl rfl rfl rfl (rfl) rfl ?_)
   refine ro rfl (ok_assign rfl rfl rfl rfl ?_)
   refine rn ?_
   (repeat (first | refine uw ?_ | refine uo rfl ?_))
   have e1 := oi h1
   subst e1
   exact ghost_le (le_mk ⟨er rfl, er rfl, trivial⟩ ⟨⟨_, rfl, ⟨sr, sr, sr, sr, sr, trivial⟩⟩, trivial⟩)
  ·replace h1 := if_f c1 h1
   refine gd_ff rfl rfl rfl (df c1) (ok_fieldAddrP rfl rfl rfl rfl rfl rfl rfl rfl rfl ?_)
   refine gd_ff rfl rfl rfl (df c1) (ok_loadP1 rfl rfl rfl rfl rfl rfl rfl rfl ?_)
   refine gd_ff rfl rfl rfl (df c1) (ok_cmp rfl rfl rfl rfl rfl rfl ?_)
   refine gd_ff rfl rfl rfl (df c1) (ok_move rfl rfl rfl rfl ?_)
   refine gd_D rfl rfl rfl (fun c2 => ?_) (fun c2 => ?_)
   ·replace h1 := if_t c2 h1
    refine gd_tt rfl rfl rfl (dt c2) (ok_fieldAddrP rfl rfl rfl rfl rfl rfl rfl rfl rfl ?_)
    refine gd_tt rfl rfl rfl (dt c2) (ok_loadP1 rfl rfl rfl rfl rfl rfl rfl rfl ?_)
    refine gd_tt rfl rfl rfl (dt c2) (ok_cmp rfl rfl rfl rfl rfl rfl ?_)
    refine gd_tt rfl rfl rfl (dt c2) (ok_move rfl rfl rfl rfl ?_)
    refine gd_D rfl rfl rfl (fun c3 => ?_) (fun c3 => ?_)
    ·replace h1 := if_t c3 h1
     refine gd_ft rfl rfl rfl (dt c3) rfl rfl ?_
     refine gd_ft rfl rfl rfl (dt c3) rfl rfl ?_
     refine gd_ft rfl rfl rfl (dt c3) rfl rfl ?_
     refine gd_tt rfl rfl rfl (dt c2) (ok_pick_true rfl rfl rfl rfl (dt c3) rfl ?_)
     refine gd_ff rfl rfl rfl (df c1) (ok_pick_true rfl rfl rfl rfl (dt c2) rfl ?_)
     refine ro rfl (ok_pick_false rfl rfl rfl rfl (df c1) rfl ?_)
     refine ro rfl (ok_move rfl rfl rfl rfl ?_)
     refine gd_ft rfl rfl rfl (rfl) rfl rfl ?_
     refine gd_ft rfl rfl rfl (rfl) rfl rfl ?_
     refine gd_ft rfl rfl rfl (rfl) rfl rfl ?_
     refine ro rfl (ok_pick_true rfl rfl rfl rfl (rfl) rfl ?_)
     refine ro rfl (ok_assign rfl rfl rfl rfl ?_)
     refine rn ?_
     (repeat (first | refine uw ?_ | refine uo rfl ?_))
     have e1 := oi h1
     subst e1
     exact ghost_le (le_mk ⟨er rfl, er rfl, trivial⟩ ⟨⟨_, rfl, ⟨sr, sr, sr, sr, sr, trivial⟩⟩, trivial⟩)
    ·replace h1 := if_f c3 h1
     refine gd_ff rfl rfl rfl (df c3) (ok_fieldAddrP rfl rfl rfl rfl rfl rfl rfl rfl rfl ?_)
     refine gd_ff rfl rfl rfl (df c3) (ok_loadP1 rfl rfl rfl rfl rfl rfl rfl rfl ?_)
     refine gd_ff rfl rfl rfl (df c3) (ok_cmp rfl rfl rfl rfl rfl rfl ?_)
     refine gd_tt rfl rfl rfl (dt c2) (ok_pick_false rfl rfl rfl rfl (df c3) rfl ?_)
     refine gd_ff rfl rfl rfl (df c1) (ok_pick_true rfl rfl rfl rfl (dt c2) rfl ?_)
     refine ro rfl (ok_pick_false rfl rfl rfl rfl (df c1) rfl ?_)
     refine ro rfl (ok_move rfl rfl rfl rfl ?_)
     refine gd_D rfl rfl rfl (fun c4 => ?_) (fun c4 => ?_)
     ·replace h1 := if_t c4 h1
      refine gd_ft rfl rfl rfl (dt c4) rfl rfl ?_
      refine gd_ft rfl rfl rfl (dt c4) rfl rfl ?_
      refine gd_ft rfl rfl rfl (dt c4) rfl rfl ?_
      refine ro rfl (ok_pick_true rfl rfl rfl rfl (dt c4) rfl ?_)
      refine ro rfl (ok_assign rfl rfl rfl rfl ?_)
      refine rn ?_
      (repeat (first | refine uw ?_ | refine uo rfl ?_))
      have e1 := oi h1
      subst e1
      exact ghost_le (le_mk ⟨er rfl, er rfl, trivial⟩ ⟨⟨_, rfl, ⟨sr, sr, sr, sr, sr, trivial⟩⟩, trivial⟩)
     ·replace h1 := if_f c4 h1
      refine gd_ff rfl rfl rfl (df c4) (ok_fieldAddrP rfl rfl rfl rfl rfl rfl rfl rfl rfl ?_)
      refine gd_ff rfl rfl rfl (df c4) (ok_loadP1 rfl rfl rfl rfl rfl rfl rfl rfl ?_)
      refine gd_ff rfl rfl rfl (df c4) (ok_cmp rfl rfl rfl rfl rfl rfl ?_)
      refine ro rfl (ok_pick_false rfl rfl rfl rfl (df c4) rfl ?_)
      refine ro rfl (ok_assign rfl rfl rfl rfl ?_)
      refine rn ?_
      (repeat (first | refine uw ?_ | refine uo rfl ?_))
      have e1 := oi h1
      subst e1
      exact ghost_le (le_mk ⟨er rfl, er rfl, trivial⟩ ⟨⟨_, rfl, ⟨sr, sr, sr, sr, sr, trivial⟩⟩, trivial⟩)
   ·replace h1 := if_f c2 h1
    refine gd_tf rfl rfl rfl (df c2) rfl rfl ?_
    refine gd_tf rfl rfl rfl (df c2) rfl rfl ?_
    refine gd_tf rfl rfl rfl (df c2) rfl rfl ?_
    refine gd_tf rfl rfl rfl (df c2) rfl rfl ?_
    refine gd_none rfl rfl rfl rfl rfl ?_
    refine gd_none rfl rfl rfl rfl rfl ?_
    refine gd_none rfl rfl rfl rfl rfl ?_
    refine gd_tf rfl rfl rfl (df c2) rfl rfl ?_
    refine gd_ff rfl rfl rfl (df c1) (ok_pick_false rfl rfl rfl rfl (df c2) rfl ?_)
    refine ro rfl (ok_pick_false rfl rfl rfl rfl (df c1) rfl ?_)
    refine ro rfl (ok_move rfl rfl rfl rfl ?_)
    refine gd_ff rfl rfl rfl (rfl) (ok_fieldAddrP rfl rfl rfl rfl rfl rfl rfl rfl rfl ?_)
    refine gd_ff rfl rfl rfl (rfl) (ok_loadP1 rfl rfl rfl rfl rfl rfl rfl rfl ?_)
    refine gd_ff rfl rfl rfl (rfl) (ok_cmp rfl rfl rfl rfl rfl rfl ?_)
    refine ro rfl (ok_pick_false rfl rfl rfl rfl (rfl) rfl ?_)
    refine ro rfl (ok_assign rfl rfl rfl rfl ?_)
    refine rn ?_
    (repeat (first | refine uw ?_ | refine uo rfl ?_))
    have e1 := oi h1
    subst e1
    exact ghost_le (le_mk ⟨er rfl, er rfl, trivial⟩ ⟨⟨_, rfl, ⟨sr, sr, sr, sr, sr, trivial⟩⟩, trivial⟩)

def ref01_Valid (n_0 : Int) : Option Bool :=
 (
   if (-9007199254740992) ≤ n_0 then
    some (decide (n_0 ≤ 9007199254740992))
   else
    some false
  : Option Bool).bind fun t2 =>
 some t2

set_option maxHeartbeats 4000000 in
theorem ref01_Valid_ok (n_0 : Int) (r : Bool) (h0 : ref01_Valid n_0 = some r) : PCalls Try.prog 85 [eI n_0] (· = .p (eB r)) := by
 unfold ref01_Valid at h0
 refine pbodyA good Try.func85 rfl rfl rfl fun w0 => ?_
 refine awp_seq (awp_reg ?_)
 refine ro rfl (ok_assign rfl rfl rfl rfl ?_)
 refine rn ?_
 refine awp_seq ?_
 obtain ⟨o4, h1, h0⟩ := bd_cut h0
 refine awp_joinN ⟨[(2, .p (eB o4))], []⟩ ?_ ?_
 ·intro s' hle
  (repeat (first | refine uw ?_ | refine uo rfl ?_))
  refine awp_ghost hle ?_
  refine awp_ret ?_
  (repeat (first | refine uw ?_ | refine uo rfl ?_))
  have e0 := oi h0
  subst e0
  refine reta_mk rfl ?_
  exact sr
 ·skip
  refine awp_reg ?_
  refine ro rfl (ok_move rfl rfl rfl rfl ?_)
  refine ro rfl (ok_cmp rfl rfl rfl rfl rfl rfl ?_)
  refine ro rfl (ok_move rfl rfl rfl rfl ?_)
  refine gd_D rfl rfl rfl (fun c1 => ?_) (fun c1 => ?_)
  ·replace h1 := if_t c1 h1
   refine gd_tt rfl rfl rfl (dt c1) (ok_move rfl rfl rfl rfl ?_)
   refine gd_tt rfl rfl rfl (dt c1) (ok_cmp rfl rfl rfl rfl rfl rfl ?_)
   refine ro rfl (ok_pick_true rfl rfl rfl rfl (dt c1) rfl ?_)
   refine ro rfl (ok_assign rfl rfl rfl rfl ?_)
   refine rn ?_
   (repeat (first | refine uw ?_ | refine uo rfl ?_))
   have e1 := oi h1
   subst e1
   exact ghost_le (le_mk ⟨er rfl, trivial⟩ trivial)
  ·replace h1 := if_f c1 h1
   refine gd_tf rfl rfl rfl (df c1) rfl rfl ?_
   refine gd_tf rfl rfl rfl (df c1) rfl rfl ?_
   refine ro rfl (ok_pick_false rfl rfl rfl rfl (df c1) rfl ?_)
   refine ro rfl (ok_assign rfl rfl rfl rfl ?_)
   refine rn ?_
   (repeat (first | refine uw ?_ | refine uo rfl ?_))
   have e1 := oi h1
   subst e1
   exact ghost_le (le_mk ⟨er rfl, trivial⟩ trivial)

def ref02_cont (s_0 : Bytes) (i_1 : Int) (lo_2 : Int) (hi_3 : Int) : Option Bool :=
 (
   if i_1 < (s_0.length : Int) then
    ck ((0 : Int) ≤ i_1 ∧ i_1 < (s_0.length : Int)) <|
    if lo_2 ≤ byt s_0 i_1 then
     ck ((0 : Int) ≤ i_1 ∧ i_1 < (s_0.length : Int)) <|
     some (decide (byt s_0 i_1 ≤ hi_3))
    else
     some false
   else
    some false
  : Option Bool).bind fun t5 =>
 some t5

set_option maxHeartbeats 4000000 in
theorem ref02_cont_ok (s_0 : Bytes) (i_1 : Int) (lo_2 : Int) (hi_3 : Int) (r : Bool) (h0 : ref02_cont s_0 i_1 lo_2 hi_3 = some r) : PCalls Try.prog 81 [eS s_0, eI i_1, eK .u8 lo_2, eK .u8 hi_3] (· = .p (eB r)) := by
 unfold ref02_cont at h0
 refine pbodyA good Try.func81 rfl rfl rfl fun w0 => ?_
 refine awp_seq (awp_reg ?_)
 refine ro rfl (ok_assign rfl rfl rfl rfl ?_)
 refine rn ?_
 refine awp_seq ?_
 obtain ⟨o7, h1, h0⟩ := bd_cut h0
 refine awp_joinN ⟨[(8, .p (eB o7))], []⟩ ?_ ?_
 ·intro s' hle
  (repeat (first | refine uw ?_ | refine uo rfl ?_))
  refine awp_ghost hle ?_
  refine awp_ret ?_
  (repeat (first | refine uw ?_ | refine uo rfl ?_))
  have e0 := oi h0
  subst e0
  refine reta_mk rfl ?_
  exact sr
 ·skip
  refine awp_reg ?_
  refine ro rfl (ok_move rfl rfl rfl rfl ?_)
  refine ro rfl (ok_move rfl rfl rfl rfl ?_)
  refine ro rfl (ok_lenS rfl rfl rfl rfl rfl rfl ?_)
  refine ro rfl (ok_cmp rfl rfl rfl rfl rfl rfl ?_)
  refine ro rfl (ok_move rfl rfl rfl rfl ?_)
  refine gd_D rfl rfl rfl (fun c1 => ?_) (fun c1 => ?_)
  ·replace h1 := if_t c1 h1
   refine gd_tt rfl rfl rfl (dt c1) (ok_move rfl rfl rfl rfl ?_)
   refine gd_tt rfl rfl rfl (dt c1) (ok_move rfl rfl rfl rfl ?_)
   obtain ⟨h2, h1⟩ := ck_cut h1
   refine gd_tt rfl rfl rfl (dt c1) (op_indexS rfl rfl rfl rfl rfl rfl rfl h2 ?_)
   refine gd_tt rfl rfl rfl (dt c1) (ok_move rfl rfl rfl rfl ?_)
   refine gd_tt rfl rfl rfl (dt c1) (ok_cmp rfl rfl rfl rfl rfl rfl ?_)
   refine ro rfl (ok_pick_true rfl rfl rfl rfl (dt c1) rfl ?_)
   refine ro rfl (ok_move rfl rfl rfl rfl ?_)
   refine gd_D rfl rfl rfl (fun c3 => ?_) (fun c3 => ?_)
   ·replace h1 := if_t c3 h1
    refine gd_tt rfl rfl rfl (dt c3) (ok_move rfl rfl rfl rfl ?_)
    refine gd_tt rfl rfl rfl (dt c3) (ok_move rfl rfl rfl rfl ?_)
    obtain ⟨h4, h1⟩ := ck_cut h1
    refine gd_tt rfl rfl rfl (dt c3) (op_indexS rfl rfl rfl rfl rfl rfl rfl h4 ?_)
    refine gd_tt rfl rfl rfl (dt c3) (ok_move rfl rfl rfl rfl ?_)
    refine gd_tt rfl rfl rfl (dt c3) (ok_cmp rfl rfl rfl rfl rfl rfl ?_)
    refine ro rfl (ok_pick_true rfl rfl rfl rfl (dt c3) rfl ?_)
    refine ro rfl (ok_assign rfl rfl rfl rfl ?_)
    refine rn ?_
    (repeat (first | refine uw ?_ | refine uo rfl ?_))
    have e1 := oi h1
    subst e1
    exact ghost_le (le_mk ⟨er rfl, trivial⟩ trivial)
   ·replace h1 := if_f c3 h1
    refine gd_tf rfl rfl rfl (df c3) rfl rfl ?_
    refine gd_tf rfl rfl rfl (df c3) rfl rfl ?_
    refine gd_tf rfl rfl rfl (df c3) rfl rfl ?_
    refine gd_tf rfl rfl rfl (df c3) rfl rfl ?_
    refine gd_tf rfl rfl rfl (df c3) rfl rfl ?_
    refine ro rfl (ok_pick_false rfl rfl rfl rfl (df c3) rfl ?_)
    refine ro rfl (ok_assign rfl rfl rfl rfl ?_)
    refine rn ?_
    (repeat (first | refine uw ?_ | refine uo rfl ?_))
    have e1 := oi h1
    subst e1
    exact ghost_le (le_mk ⟨er rfl, trivial⟩ trivial)
  ·replace h1 := if_f c1 h1
   refine gd_tf rfl rfl rfl (df c1) rfl rfl ?_
   refine gd_tf rfl rfl rfl (df c1) rfl rfl ?_
   refine gd_tf rfl rfl rfl (df c1) rfl rfl ?_
   refine gd_tf rfl rfl rfl (df c1) rfl rfl ?_
   refine gd_tf rfl rfl rfl (df c1) rfl rfl ?_
   refine ro rfl (ok_pick_false rfl rfl rfl rfl (df c1) rfl ?_)
   refine ro rfl (ok_move rfl rfl rfl rfl ?_)
   refine gd_tf rfl rfl rfl (rfl) rfl rfl ?_
   refine gd_tf rfl rfl rfl (rfl) rfl rfl ?_
   refine gd_tf rfl rfl rfl (rfl) rfl rfl ?_
   refine gd_tf rfl rfl rfl (rfl) rfl rfl ?_
   refine gd_tf rfl rfl rfl (rfl) rfl rfl ?_
   refine ro rfl (ok_pick_false rfl rfl rfl rfl (rfl) rfl ?_)
   refine ro rfl (ok_assign rfl rfl rfl rfl ?_)
   refine rn ?_
   (repeat (first | refine uw ?_ | refine uo rfl ?_))
   have e1 := oi h1
   subst e1
   exact ghost_le (le_mk ⟨er rfl, trivial⟩ trivial)

def ref02_Decode (s_0 : Bytes) (i_1 : Int) : Option (Int × Int) :=
 (
   if i_1 < 0 then
    some true
   else
    some (decide ((s_0.length : Int) ≤ i_1))
  : Option Bool).bind fun t2 =>
 if t2 = true then
  some (0, 0)
 else
  ck ((0 : Int) ≤ i_1 ∧ i_1 < (s_0.length : Int)) <|
  if byt s_0 i_1 < 128 then
   ck (inR (byt s_0 i_1)) <|
   some (byt s_0 i_1, 1)
  else
   (
     if 194 ≤ byt s_0 i_1 then
      if byt s_0 i_1 ≤ 223 then
       ck (inR (i_1 + 1)) <|
       (ref02_cont s_0 (i_1 + 1) 128 191).bind fun r10 =>
       some r10
      else
       some false
     else
      some false
    : Option Bool).bind fun t12 =>
   if t12 = true then
    ck (inR (iAnd .u8 (byt s_0 i_1) 31)) <|
    ck ((0 : Int) ≤ 6) <|
    ck (inR (i_1 + 1)) <|
    ck ((0 : Int) ≤ i_1 + 1 ∧ i_1 + 1 < (s_0.length : Int)) <|
    ck (inR (iAnd .u8 (byt s_0 (i_1 + 1)) 63)) <|
    some (iOr .i64 (iShl .i64 (iAnd .u8 (byt s_0 i_1) 31) 6) (iAnd .u8 (byt s_0 (i_1 + 1)) 63), 2)
   else
    (
      if byt s_0 i_1 = 224 then
       some 160
      else
       some 128
     : Option Int).bind fun lo20 =>
    (
      if byt s_0 i_1 = 237 then
       some 159
      else
       some 191
     : Option Int).bind fun hi22 =>
    (
      if 224 ≤ byt s_0 i_1 then
       if byt s_0 i_1 ≤ 239 then
        ck (inR (i_1 + 1)) <|
        (ref02_cont s_0 (i_1 + 1) lo20 hi22).bind fun r26 =>
        if r26 = true then
         ck (inR (i_1 + 2)) <|
         (ref02_cont s_0 (i_1 + 2) 128 191).bind fun r30 =>
         some r30
        else
         some false
       else
        some false
      else
       some false
     : Option Bool).bind fun t32 =>
    if t32 = true then
     ck (inR (iAnd .u8 (byt s_0 i_1) 15)) <|
     ck ((0 : Int) ≤ 12) <|
     ck (inR (i_1 + 1)) <|
     ck ((0 : Int) ≤ i_1 + 1 ∧ i_1 + 1 < (s_0.length : Int)) <|
     ck (inR (iAnd .u8 (byt s_0 (i_1 + 1)) 63)) <|
     ck ((0 : Int) ≤ 6) <|
     ck (inR (i_1 + 2)) <|
     ck ((0 : Int) ≤ i_1 + 2 ∧ i_1 + 2 < (s_0.length : Int)) <|
     ck (inR (iAnd .u8 (byt s_0 (i_1 + 2)) 63)) <|
     some (iOr .i64 (iOr .i64 (iShl .i64 (iAnd .u8 (byt s_0 i_1) 15) 12) (iShl .i64 (iAnd .u8 (byt s_0 (i_1 + 1)) 63) 6)) (iAnd .u8 (byt s_0 (i_1 + 2)) 63), 3)
    else
     (
       if byt s_0 i_1 = 240 then
        some 144
       else
        some 128
      : Option Int).bind fun lo44 =>
     (
       if byt s_0 i_1 = 244 then
        some 143
       else
        some 191
      : Option Int).bind fun hi46 =>
     (
       if 240 ≤ byt s_0 i_1 then
        if byt s_0 i_1 ≤ 244 then
         ck (inR (i_1 + 1)) <|
         (ref02_cont s_0 (i_1 + 1) lo44 hi46).bind fun r50 =>
         if r50 = true then
          ck (inR (i_1 + 2)) <|
          (ref02_cont s_0 (i_1 + 2) 128 191).bind fun r54 =>
          if r54 = true then
           ck (inR (i_1 + 3)) <|
           (ref02_cont s_0 (i_1 + 3) 128 191).bind fun r58 =>
           some r58
          else
           some false
         else
          some false
        else
         some false
       else
        some false
      : Option Bool).bind fun t60 =>
     if t60 = true then
      ck (inR (iAnd .u8 (byt s_0 i_1) 7)) <|
      ck ((0 : Int) ≤ 18) <|
      ck (inR (i_1 + 1)) <|
      ck ((0 : Int) ≤ i_1 + 1 ∧ i_1 + 1 < (s_0.length : Int)) <|
      ck (inR (iAnd .u8 (byt s_0 (i_1 + 1)) 63)) <|
      ck ((0 : Int) ≤ 12) <|
      ck (inR (i_1 + 2)) <|
      ck ((0 : Int) ≤ i_1 + 2 ∧ i_1 + 2 < (s_0.length : Int)) <|
      ck (inR (iAnd .u8 (byt s_0 (i_1 + 2)) 63)) <|
      ck ((0 : Int) ≤ 6) <|
      ck (inR (i_1 + 3)) <|
      ck ((0 : Int) ≤ i_1 + 3 ∧ i_1 + 3 < (s_0.length : Int)) <|
      ck (inR (iAnd .u8 (byt s_0 (i_1 + 3)) 63)) <|
      some (iOr .i64 (iOr .i64 (iOr .i64 (iShl .i64 (iAnd .u8 (byt s_0 i_1) 7) 18) (iShl .i64 (iAnd .u8 (byt s_0 (i_1 + 1)) 63) 12)) (iShl .i64 (iAnd .u8 (byt s_0 (i_1 + 2)) 63) 6)) (iAnd .u8 (byt s_0 (i_1 + 3)) 63), 4)
     else
      some (0, 0)

set_option maxHeartbeats 4000000 in
theorem ref02_Decode_ok (s_0 : Bytes) (i_1 : Int) (r : Int × Int) (h0 : ref02_Decode s_0 i_1 = some r) : PCalls Try.prog 72 [eS s_0, eI i_1] (· = .tuple [.p (eI r.1), .p (eI r.2)]) := by
 unfold ref02_Decode at h0
 refine pbodyA good Try.func72 rfl rfl rfl fun w0 => ?_
 refine awp_seq (awp_reg ?_)
 refine ro rfl (ok_assign rfl rfl rfl rfl ?_)
 refine ro rfl (ok_assign rfl rfl rfl rfl ?_)
 refine rn ?_
 refine awp_seq (awp_seq ?_)
 obtain ⟨o83, h1, h0⟩ := bd_cut h0
 refine awp_joinN ⟨[(0, .p (eS s_0)), (1, .p (eI i_1)), (16, .p (eB o83))], []⟩ ?_ ?_
 ·intro s' hle
  (repeat (first | refine uw ?_ | refine uo rfl ?_))
  refine awp_ghost hle ?_
  refine wp_if rfl (fun c3 => ?_) (fun c3 => ?_)
  ·replace h0 := if_t c3 h0
   refine awp_seq (awp_reg ?_)
   refine ro rfl (ok_assign rfl rfl rfl rfl ?_)
   refine ro rfl (ok_assign rfl rfl rfl rfl ?_)
   refine rn ?_
   refine awp_ret ?_
   (repeat (first | refine uw ?_ | refine uo rfl ?_))
   have e0 := oi h0
   subst e0
   refine reta_mk rfl ?_
   exact sub_tuple ⟨sr, sr, trivial⟩
  ·replace h0 := if_bf c3 h0
   refine awp_skip (awp_seq (awp_reg ?_))
   refine ro rfl (ok_move rfl rfl rfl rfl ?_)
   refine ro rfl (ok_move rfl rfl rfl rfl ?_)
   obtain ⟨h4, h0⟩ := ck_cut h0
   refine ro rfl (op_indexS rfl rfl rfl rfl rfl rfl rfl h4 ?_)
   refine ro rfl (ok_assign rfl rfl rfl rfl ?_)
   refine rn ?_
   refine awp_seq (awp_seq (awp_reg ?_))
   refine ro rfl (ok_move rfl rfl rfl rfl ?_)
   refine ro rfl (ok_cmp rfl rfl rfl rfl rfl rfl ?_)
   refine rn ?_
   refine wp_ifD rfl (fun c5 => ?_) (fun c5 => ?_)
   ·replace h0 := if_t c5 h0
    refine awp_seq (awp_reg ?_)
    refine ro rfl (ok_move rfl rfl rfl rfl ?_)
    obtain ⟨h6, h0⟩ := ck_cut h0
    refine ro rfl (ok_convInt rfl rfl rfl rfl rfl rfl rfl rfl (wrap_in h6) ?_)
    refine ro rfl (ok_assign rfl rfl rfl rfl ?_)
    refine ro rfl (ok_assign rfl rfl rfl rfl ?_)
    refine rn ?_
    refine awp_ret ?_
    (repeat (first | refine uw ?_ | refine uo rfl ?_))
    have e0 := oi h0
    subst e0
    refine reta_mk rfl ?_
    exact sub_tuple ⟨sr, sr, trivial⟩
   ·replace h0 := if_f c5 h0
    refine awp_skip (awp_seq (awp_seq ?_))
    obtain ⟨o85, h1, h0⟩ := bd_cut h0
    refine awp_joinN ⟨[(0, .p (eS s_0)), (1, .p (eI i_1)), (6, .p (eK .u8 (byt s_0 i_1))), (35, .p (eB o85))], []⟩ ?_ ?_
    ·intro s' hle
     (repeat (first | refine uw ?_ | refine uo rfl ?_))
     refine awp_ghost hle ?_
     refine wp_if rfl (fun c13 => ?_) (fun c13 => ?_)
     ·replace h0 := if_t c13 h0
      refine awp_seq (awp_reg ?_)
      refine ro rfl (ok_move rfl rfl rfl rfl ?_)
      refine ro rfl (ok_bit rfl rfl rfl rfl rfl rfl ?_)
      obtain ⟨h14, h0⟩ := ck_cut h0
      refine ro rfl (ok_convInt rfl rfl rfl rfl rfl rfl rfl rfl (wrap_in h14) ?_)
      obtain ⟨h15, h0⟩ := ck_cut h0
      refine ro rfl (ok_sh rfl rfl rfl rfl rfl rfl h15 ?_)
      refine ro rfl (ok_move rfl rfl rfl rfl ?_)
      refine ro rfl (ok_move rfl rfl rfl rfl ?_)
      obtain ⟨h16, h0⟩ := ck_cut h0
      refine ro rfl (ok_ar rfl rfl rfl rfl rfl rfl h16 ?_)
      obtain ⟨h17, h0⟩ := ck_cut h0
      refine ro rfl (op_indexS rfl rfl rfl rfl rfl rfl rfl h17 ?_)
      refine ro rfl (ok_bit rfl rfl rfl rfl rfl rfl ?_)
      obtain ⟨h18, h0⟩ := ck_cut h0
      refine ro rfl (ok_convInt rfl rfl rfl rfl rfl rfl rfl rfl (wrap_in h18) ?_)
      refine ro rfl (ok_bit rfl rfl rfl rfl rfl rfl ?_)
      refine ro rfl (ok_assign rfl rfl rfl rfl ?_)
      refine ro rfl (ok_assign rfl rfl rfl rfl ?_)
      refine rn ?_
      refine awp_ret ?_
      (repeat (first | refine uw ?_ | refine uo rfl ?_))
      have e0 := oi h0
      subst e0
      refine reta_mk rfl ?_
      exact sub_tuple ⟨sr, sr, trivial⟩
     ·replace h0 := if_bf c13 h0
      refine awp_skip (awp_seq (awp_reg ?_))
      refine ro rfl (ok_assign rfl rfl rfl rfl ?_)
      refine ro rfl (ok_assign rfl rfl rfl rfl ?_)
      refine rn ?_
      refine awp_seq ?_
      obtain ⟨o87, h1, h0⟩ := bd_cut h0
      refine awp_joinN ⟨[(0, .p (eS s_0)), (1, .p (eI i_1)), (6, .p (eK .u8 (byt s_0 i_1))), (7, .p (eK .u8 o87)), (8, .p (eK .u8 191))], []⟩ ?_ ?_
      ·intro s' hle
       (repeat (first | refine uw ?_ | refine uo rfl ?_))
       refine awp_ghost hle ?_
       refine awp_seq ?_
       obtain ⟨o89, h1, h0⟩ := bd_cut h0
       refine awp_joinN ⟨[(0, .p (eS s_0)), (1, .p (eI i_1)), (6, .p (eK .u8 (byt s_0 i_1))), (7, .p (eK .u8 o87)), (8, .p (eK .u8 o89))], []⟩ ?_ ?_
       ·intro s' hle
        (repeat (first | refine uw ?_ | refine uo rfl ?_))
        refine awp_ghost hle ?_
        refine awp_seq (awp_seq ?_)
        obtain ⟨o91, h1, h0⟩ := bd_cut h0
        refine awp_joinN ⟨[(0, .p (eS s_0)), (1, .p (eI i_1)), (6, .p (eK .u8 (byt s_0 i_1))), (70, .p (eB o91))], []⟩ ?_ ?_
        ·intro s' hle
         (repeat (first | refine uw ?_ | refine uo rfl ?_))
         refine awp_ghost hle ?_
         refine wp_if rfl (fun c33 => ?_) (fun c33 => ?_)
         ·replace h0 := if_t c33 h0
          refine awp_seq ?_
          obtain ⟨h34, h0⟩ := ck_cut h0
          obtain ⟨h35, h0⟩ := ck_cut h0
          obtain ⟨h36, h0⟩ := ck_cut h0
          obtain ⟨h37, h0⟩ := ck_cut h0
          obtain ⟨h38, h0⟩ := ck_cut h0
          obtain ⟨h39, h0⟩ := ck_cut h0
          obtain ⟨h40, h0⟩ := ck_cut h0
          obtain ⟨h41, h0⟩ := ck_cut h0
          obtain ⟨h42, h0⟩ := ck_cut h0
          refine awp_drawQ [(0, .p (eS s_0)), (1, .p (eI i_1)), (6, .p (eK .u8 (byt s_0 i_1)))] rfl ⟨rfl, rfl, rfl, trivial⟩ rfl ?_
          refine dq_cons (.p (eK .u8 (byt s_0 i_1))) [(6, _)] ⟨.inl rfl, trivial⟩ (fun sl hsl K hK => one_op rfl (ok_move rfl rfl rfl (hsl _ _ rfl) hK)) rfl rfl rfl ?_
          refine dq_cons (.p (eK .u8 (iAnd .u8 (byt s_0 i_1) 15))) [(71, _)] ⟨.inr ⟨0, rfl, rfl⟩, trivial⟩ (fun sl hsl K hK => one_op rfl (ok_bit rfl rfl rfl (hsl _ _ rfl) rfl rfl hK)) rfl rfl rfl ?_
          refine dq_cons (.p (eI (iAnd .u8 (byt s_0 i_1) 15))) [(72, _)] ⟨.inr ⟨1, rfl, rfl⟩, trivial⟩ (fun sl hsl K hK => one_op rfl (ok_convInt rfl rfl rfl rfl rfl rfl rfl (hsl _ _ rfl) (wrap_in h34) hK)) rfl rfl rfl ?_
          refine dq_cons (.p (eI (iShl .i64 (iAnd .u8 (byt s_0 i_1) 15) 12))) [(73, _)] ⟨.inr ⟨2, rfl, rfl⟩, trivial⟩ (fun sl hsl K hK => one_op rfl (ok_sh rfl rfl rfl (hsl _ _ rfl) rfl rfl h35 hK)) rfl rfl rfl ?_
          refine dq_cons (.p (eS s_0)) [(0, _)] ⟨.inl rfl, trivial⟩ (fun sl hsl K hK => one_op rfl (ok_move rfl rfl rfl (hsl _ _ rfl) hK)) rfl rfl rfl ?_
          refine dq_cons (.p (eI i_1)) [(1, _)] ⟨.inl rfl, trivial⟩ (fun sl hsl K hK => one_op rfl (ok_move rfl rfl rfl (hsl _ _ rfl) hK)) rfl rfl rfl ?_
          refine dq_cons (.p (eI (i_1 + 1))) [(76, _)] ⟨.inr ⟨5, rfl, rfl⟩, trivial⟩ (fun sl hsl K hK => one_op rfl (ok_ar rfl rfl rfl (hsl _ _ rfl) rfl rfl h36 hK)) rfl rfl rfl ?_
          refine dq_cons (.p (eK .u8 (byt s_0 (i_1 + 1)))) [(75, _), (77, _)] ⟨.inr ⟨4, rfl, rfl⟩, .inr ⟨6, rfl, rfl⟩, trivial⟩ (fun sl hsl K hK => one_op rfl (op_indexS rfl rfl rfl rfl rfl (hsl _ _ rfl) (hsl _ _ rfl) h37 hK)) rfl rfl rfl ?_
          refine dq_cons (.p (eK .u8 (iAnd .u8 (byt s_0 (i_1 + 1)) 63))) [(78, _)] ⟨.inr ⟨7, rfl, rfl⟩, trivial⟩ (fun sl hsl K hK => one_op rfl (ok_bit rfl rfl rfl (hsl _ _ rfl) rfl rfl hK)) rfl rfl rfl ?_
          refine dq_cons (.p (eI (iAnd .u8 (byt s_0 (i_1 + 1)) 63))) [(79, _)] ⟨.inr ⟨8, rfl, rfl⟩, trivial⟩ (fun sl hsl K hK => one_op rfl (ok_convInt rfl rfl rfl rfl rfl rfl rfl (hsl _ _ rfl) (wrap_in h38) hK)) rfl rfl rfl ?_
          refine dq_cons (.p (eI (iShl .i64 (iAnd .u8 (byt s_0 (i_1 + 1)) 63) 6))) [(80, _)] ⟨.inr ⟨9, rfl, rfl⟩, trivial⟩ (fun sl hsl K hK => one_op rfl (ok_sh rfl rfl rfl (hsl _ _ rfl) rfl rfl h39 hK)) rfl rfl rfl ?_
          refine dq_cons (.p (eI (iOr .i64 (iShl .i64 (iAnd .u8 (byt s_0 i_1) 15) 12) (iShl .i64 (iAnd .u8 (byt s_0 (i_1 + 1)) 63) 6)))) [(74, _), (81, _)] ⟨.inr ⟨3, rfl, rfl⟩, .inr ⟨10, rfl, rfl⟩, trivial⟩ (fun sl hsl K hK => one_op rfl (ok_bit rfl rfl rfl (hsl _ _ rfl) (hsl _ _ rfl) rfl hK)) rfl rfl rfl ?_
          refine dq_cons (.p (eS s_0)) [(0, _)] ⟨.inl rfl, trivial⟩ (fun sl hsl K hK => one_op rfl (ok_move rfl rfl rfl (hsl _ _ rfl) hK)) rfl rfl rfl ?_
          refine dq_cons (.p (eI i_1)) [(1, _)] ⟨.inl rfl, trivial⟩ (fun sl hsl K hK => one_op rfl (ok_move rfl rfl rfl (hsl _ _ rfl) hK)) rfl rfl rfl ?_
          refine dq_cons (.p (eI (i_1 + 2))) [(84, _)] ⟨.inr ⟨13, rfl, rfl⟩, trivial⟩ (fun sl hsl K hK => one_op rfl (ok_ar rfl rfl rfl (hsl _ _ rfl) rfl rfl h40 hK)) rfl rfl rfl ?_
          refine dq_cons (.p (eK .u8 (byt s_0 (i_1 + 2)))) [(83, _), (85, _)] ⟨.inr ⟨12, rfl, rfl⟩, .inr ⟨14, rfl, rfl⟩, trivial⟩ (fun sl hsl K hK => one_op rfl (op_indexS rfl rfl rfl rfl rfl (hsl _ _ rfl) (hsl _ _ rfl) h41 hK)) rfl rfl rfl ?_
          refine dq_cons (.p (eK .u8 (iAnd .u8 (byt s_0 (i_1 + 2)) 63))) [(86, _)] ⟨.inr ⟨15, rfl, rfl⟩, trivial⟩ (fun sl hsl K hK => one_op rfl (ok_bit rfl rfl rfl (hsl _ _ rfl) rfl rfl hK)) rfl rfl rfl ?_
          refine dq_cons (.p (eI (iAnd .u8 (byt s_0 (i_1 + 2)) 63))) [(87, _)] ⟨.inr ⟨16, rfl, rfl⟩, trivial⟩ (fun sl hsl K hK => one_op rfl (ok_convInt rfl rfl rfl rfl rfl rfl rfl (hsl _ _ rfl) (wrap_in h42) hK)) rfl rfl rfl ?_
          refine dq_cons (.p (eI (iOr .i64 (iOr .i64 (iShl .i64 (iAnd .u8 (byt s_0 i_1) 15) 12) (iShl .i64 (iAnd .u8 (byt s_0 (i_1 + 1)) 63) 6)) (iAnd .u8 (byt s_0 (i_1 + 2)) 63)))) [(82, _), (88, _)] ⟨.inr ⟨11, rfl, rfl⟩, .inr ⟨17, rfl, rfl⟩, trivial⟩ (fun sl hsl K hK => one_op rfl (ok_bit rfl rfl rfl (hsl _ _ rfl) (hsl _ _ rfl) rfl hK)) rfl rfl rfl ?_
          refine dq_cons (.p (eI (iOr .i64 (iOr .i64 (iShl .i64 (iAnd .u8 (byt s_0 i_1) 15) 12) (iShl .i64 (iAnd .u8 (byt s_0 (i_1 + 1)) 63) 6)) (iAnd .u8 (byt s_0 (i_1 + 2)) 63)))) [(89, _)] ⟨.inr ⟨18, rfl, rfl⟩, trivial⟩ (fun sl hsl K hK => one_op rfl (ok_assign rfl rfl rfl (hsl _ _ rfl) hK)) rfl rfl rfl ?_
          refine dq_cons (.p (eI 3)) [] trivial (fun sl hsl K hK => one_op rfl (ok_assign rfl rfl rfl rfl hK)) rfl rfl rfl ?_
          refine dq_nil ?_
          refine awp_ret ?_
          (repeat (first | refine uw ?_ | refine uo rfl ?_))
          have e0 := oi h0
          subst e0
          refine reta_mk rfl ?_
          exact sub_tuple ⟨sr, sr, trivial⟩
         ·replace h0 := if_bf c33 h0
          refine awp_skip (awp_seq (awp_reg ?_))
          refine ro rfl (ok_assign rfl rfl rfl rfl ?_)
          refine ro rfl (ok_assign rfl rfl rfl rfl ?_)
          refine rn ?_
          refine awp_seq ?_
          obtain ⟨o93, h1, h0⟩ := bd_cut h0
          refine awp_joinN ⟨[(0, .p (eS s_0)), (1, .p (eI i_1)), (6, .p (eK .u8 (byt s_0 i_1))), (7, .p (eK .u8 o93)), (8, .p (eK .u8 191))], []⟩ ?_ ?_
          ·intro s' hle
           (repeat (first | refine uw ?_ | refine uo rfl ?_))
           refine awp_ghost hle ?_
           refine awp_seq ?_
           obtain ⟨o95, h1, h0⟩ := bd_cut h0
           refine awp_joinN ⟨[(0, .p (eS s_0)), (1, .p (eI i_1)), (6, .p (eK .u8 (byt s_0 i_1))), (7, .p (eK .u8 o93)), (8, .p (eK .u8 o95))], []⟩ ?_ ?_
           ·intro s' hle
            (repeat (first | refine uw ?_ | refine uo rfl ?_))
            refine awp_ghost hle ?_
            refine awp_seq (awp_seq ?_)
            obtain ⟨o97, h1, h0⟩ := bd_cut h0
            refine awp_joinN ⟨[(0, .p (eS s_0)), (1, .p (eI i_1)), (6, .p (eK .u8 (byt s_0 i_1))), (119, .p (eB o97))], []⟩ ?_ ?_
            ·intro s' hle
             (repeat (first | refine uw ?_ | refine uo rfl ?_))
             refine awp_ghost hle ?_
             refine wp_if rfl (fun c61 => ?_) (fun c61 => ?_)
             ·replace h0 := if_t c61 h0
              refine awp_seq ?_
              obtain ⟨h62, h0⟩ := ck_cut h0
              obtain ⟨h63, h0⟩ := ck_cut h0
              obtain ⟨h64, h0⟩ := ck_cut h0
              obtain ⟨h65, h0⟩ := ck_cut h0
              obtain ⟨h66, h0⟩ := ck_cut h0
              obtain ⟨h67, h0⟩ := ck_cut h0
              obtain ⟨h68, h0⟩ := ck_cut h0
              obtain ⟨h69, h0⟩ := ck_cut h0
              obtain ⟨h70, h0⟩ := ck_cut h0
              obtain ⟨h71, h0⟩ := ck_cut h0
              obtain ⟨h72, h0⟩ := ck_cut h0
              obtain ⟨h73, h0⟩ := ck_cut h0
              obtain ⟨h74, h0⟩ := ck_cut h0
              refine awp_drawQ [(0, .p (eS s_0)), (1, .p (eI i_1)), (6, .p (eK .u8 (byt s_0 i_1)))] rfl ⟨rfl, rfl, rfl, trivial⟩ rfl ?_
              refine dq_cons (.p (eK .u8 (byt s_0 i_1))) [(6, _)] ⟨.inl rfl, trivial⟩ (fun sl hsl K hK => one_op rfl (ok_move rfl rfl rfl (hsl _ _ rfl) hK)) rfl rfl rfl ?_
              refine dq_cons (.p (eK .u8 (iAnd .u8 (byt s_0 i_1) 7))) [(120, _)] ⟨.inr ⟨0, rfl, rfl⟩, trivial⟩ (fun sl hsl K hK => one_op rfl (ok_bit rfl rfl rfl (hsl _ _ rfl) rfl rfl hK)) rfl rfl rfl ?_
              refine dq_cons (.p (eI (iAnd .u8 (byt s_0 i_1) 7))) [(121, _)] ⟨.inr ⟨1, rfl, rfl⟩, trivial⟩ (fun sl hsl K hK => one_op rfl (ok_convInt rfl rfl rfl rfl rfl rfl rfl (hsl _ _ rfl) (wrap_in h62) hK)) rfl rfl rfl ?_
              refine dq_cons (.p (eI (iShl .i64 (iAnd .u8 (byt s_0 i_1) 7) 18))) [(122, _)] ⟨.inr ⟨2, rfl, rfl⟩, trivial⟩ (fun sl hsl K hK => one_op rfl (ok_sh rfl rfl rfl (hsl _ _ rfl) rfl rfl h63 hK)) rfl rfl rfl ?_
              refine dq_cons (.p (eS s_0)) [(0, _)] ⟨.inl rfl, trivial⟩ (fun sl hsl K hK => one_op rfl (ok_move rfl rfl rfl (hsl _ _ rfl) hK)) rfl rfl rfl ?_
              refine dq_cons (.p (eI i_1)) [(1, _)] ⟨.inl rfl, trivial⟩ (fun sl hsl K hK => one_op rfl (ok_move rfl rfl rfl (hsl _ _ rfl) hK)) rfl rfl rfl ?_
              refine dq_cons (.p (eI (i_1 + 1))) [(125, _)] ⟨.inr ⟨5, rfl, rfl⟩, trivial⟩ (fun sl hsl K hK => one_op rfl (ok_ar rfl rfl rfl (hsl _ _ rfl) rfl rfl h64 hK)) rfl rfl rfl ?_
              refine dq_cons (.p (eK .u8 (byt s_0 (i_1 + 1)))) [(124, _), (126, _)] ⟨.inr ⟨4, rfl, rfl⟩, .inr ⟨6, rfl, rfl⟩, trivial⟩ (fun sl hsl K hK => one_op rfl (op_indexS rfl rfl rfl rfl rfl (hsl _ _ rfl) (hsl _ _ rfl) h65 hK)) rfl rfl rfl ?_
              refine dq_cons (.p (eK .u8 (iAnd .u8 (byt s_0 (i_1 + 1)) 63))) [(127, _)] ⟨.inr ⟨7, rfl, rfl⟩, trivial⟩ (fun sl hsl K hK => one_op rfl (ok_bit rfl rfl rfl (hsl _ _ rfl) rfl rfl hK)) rfl rfl rfl ?_
              refine dq_cons (.p (eI (iAnd .u8 (byt s_0 (i_1 + 1)) 63))) [(128, _)] ⟨.inr ⟨8, rfl, rfl⟩, trivial⟩ (fun sl hsl K hK => one_op rfl (ok_convInt rfl rfl rfl rfl rfl rfl rfl (hsl _ _ rfl) (wrap_in h66) hK)) rfl rfl rfl ?_
              refine dq_cons (.p (eI (iShl .i64 (iAnd .u8 (byt s_0 (i_1 + 1)) 63) 12))) [(129, _)] ⟨.inr ⟨9, rfl, rfl⟩, trivial⟩ (fun sl hsl K hK => one_op rfl (ok_sh rfl rfl rfl (hsl _ _ rfl) rfl rfl h67 hK)) rfl rfl rfl ?_
              refine dq_cons (.p (eI (iOr .i64 (iShl .i64 (iAnd .u8 (byt s_0 i_1) 7) 18) (iShl .i64 (iAnd .u8 (byt s_0 (i_1 + 1)) 63) 12)))) [(123, _), (130, _)] ⟨.inr ⟨3, rfl, rfl⟩, .inr ⟨10, rfl, rfl⟩, trivial⟩ (fun sl hsl K hK => one_op rfl (ok_bit rfl rfl rfl (hsl _ _ rfl) (hsl _ _ rfl) rfl hK)) rfl rfl rfl ?_
              refine dq_cons (.p (eS s_0)) [(0, _)] ⟨.inl rfl, trivial⟩ (fun sl hsl K hK => one_op rfl (ok_move rfl rfl rfl (hsl _ _ rfl) hK)) rfl rfl rfl ?_
              refine dq_cons (.p (eI i_1)) [(1, _)] ⟨.inl rfl, trivial⟩ (fun sl hsl K hK => one_op rfl (ok_move rfl rfl rfl (hsl _ _ rfl) hK)) rfl rfl rfl ?_
              refine dq_cons (.p (eI (i_1 + 2))) [(133, _)] ⟨.inr ⟨13, rfl, rfl⟩, trivial⟩ (fun sl hsl K hK => one_op rfl (ok_ar rfl rfl rfl (hsl _ _ rfl) rfl rfl h68 hK)) rfl rfl rfl ?_
              refine dq_cons (.p (eK .u8 (byt s_0 (i_1 + 2)))) [(132, _), (134, _)] ⟨.inr ⟨12, rfl, rfl⟩, .inr ⟨14, rfl, rfl⟩, trivial⟩ (fun sl hsl K hK => one_op rfl (op_indexS rfl rfl rfl rfl rfl (hsl _ _ rfl) (hsl _ _ rfl) h69 hK)) rfl rfl rfl ?_
              refine dq_cons (.p (eK .u8 (iAnd .u8 (byt s_0 (i_1 + 2)) 63))) [(135, _)] ⟨.inr ⟨15, rfl, rfl⟩, trivial⟩ (fun sl hsl K hK => one_op rfl (ok_bit rfl rfl rfl (hsl _ _ rfl) rfl rfl hK)) rfl rfl rfl ?_
              refine dq_cons (.p (eI (iAnd .u8 (byt s_0 (i_1 + 2)) 63))) [(136, _)] ⟨.inr ⟨16, rfl, rfl⟩, trivial⟩ (fun sl hsl K hK => one_op rfl (ok_convInt rfl rfl rfl rfl rfl rfl rfl (hsl _ _ rfl) (wrap_in h70) hK)) rfl rfl rfl ?_
              refine dq_cons (.p (eI (iShl .i64 (iAnd .u8 (byt s_0 (i_1 + 2)) 63) 6))) [(137, _)] ⟨.inr ⟨17, rfl, rfl⟩, trivial⟩ (fun sl hsl K hK => one_op rfl (ok_sh rfl rfl rfl (hsl _ _ rfl) rfl rfl h71 hK)) rfl rfl rfl ?_
              refine dq_cons (.p (eI (iOr .i64 (iOr .i64 (iShl .i64 (iAnd .u8 (byt s_0 i_1) 7) 18) (iShl .i64 (iAnd .u8 (byt s_0 (i_1 + 1)) 63) 12)) (iShl .i64 (iAnd .u8 (byt s_0 (i_1 + 2)) 63) 6)))) [(131, _), (138, _)] ⟨.inr ⟨11, rfl, rfl⟩, .inr ⟨18, rfl, rfl⟩, trivial⟩ (fun sl hsl K hK => one_op rfl (ok_bit rfl rfl rfl (hsl _ _ rfl) (hsl _ _ rfl) rfl hK)) rfl rfl rfl ?_
              refine dq_cons (.p (eS s_0)) [(0, _)] ⟨.inl rfl, trivial⟩ (fun sl hsl K hK => one_op rfl (ok_move rfl rfl rfl (hsl _ _ rfl) hK)) rfl rfl rfl ?_
              refine dq_cons (.p (eI i_1)) [(1, _)] ⟨.inl rfl, trivial⟩ (fun sl hsl K hK => one_op rfl (ok_move rfl rfl rfl (hsl _ _ rfl) hK)) rfl rfl rfl ?_
              refine dq_cons (.p (eI (i_1 + 3))) [(141, _)] ⟨.inr ⟨21, rfl, rfl⟩, trivial⟩ (fun sl hsl K hK => one_op rfl (ok_ar rfl rfl rfl (hsl _ _ rfl) rfl rfl h72 hK)) rfl rfl rfl ?_
              refine dq_cons (.p (eK .u8 (byt s_0 (i_1 + 3)))) [(140, _), (142, _)] ⟨.inr ⟨20, rfl, rfl⟩, .inr ⟨22, rfl, rfl⟩, trivial⟩ (fun sl hsl K hK => one_op rfl (op_indexS rfl rfl rfl rfl rfl (hsl _ _ rfl) (hsl _ _ rfl) h73 hK)) rfl rfl rfl ?_
              refine dq_cons (.p (eK .u8 (iAnd .u8 (byt s_0 (i_1 + 3)) 63))) [(143, _)] ⟨.inr ⟨23, rfl, rfl⟩, trivial⟩ (fun sl hsl K hK => one_op rfl (ok_bit rfl rfl rfl (hsl _ _ rfl) rfl rfl hK)) rfl rfl rfl ?_
              refine dq_cons (.p (eI (iAnd .u8 (byt s_0 (i_1 + 3)) 63))) [(144, _)] ⟨.inr ⟨24, rfl, rfl⟩, trivial⟩ (fun sl hsl K hK => one_op rfl (ok_convInt rfl rfl rfl rfl rfl rfl rfl (hsl _ _ rfl) (wrap_in h74) hK)) rfl rfl rfl ?_
              refine dq_cons (.p (eI (iOr .i64 (iOr .i64 (iOr .i64 (iShl .i64 (iAnd .u8 (byt s_0 i_1) 7) 18) (iShl .i64 (iAnd .u8 (byt s_0 (i_1 + 1)) 63) 12)) (iShl .i64 (iAnd .u8 (byt s_0 (i_1 + 2)) 63) 6)) (iAnd .u8 (byt s_0 (i_1 + 3)) 63)))) [(139, _), (145, _)] ⟨.inr ⟨19, rfl, rfl⟩, .inr ⟨25, rfl, rfl⟩, trivial⟩ (fun sl hsl K hK => one_op rfl (ok_bit rfl rfl rfl (hsl _ _ rfl) (hsl _ _ rfl) rfl hK)) rfl rfl rfl ?_
              refine dq_cons (.p (eI (iOr .i64 (iOr .i64 (iOr .i64 (iShl .i64 (iAnd .u8 (byt s_0 i_1) 7) 18) (iShl .i64 (iAnd .u8 (byt s_0 (i_1 + 1)) 63) 12)) (iShl .i64 (iAnd .u8 (byt s_0 (i_1 + 2)) 63) 6)) (iAnd .u8 (byt s_0 (i_1 + 3)) 63)))) [(146, _)] ⟨.inr ⟨26, rfl, rfl⟩, trivial⟩ (fun sl hsl K hK => one_op rfl (ok_assign rfl rfl rfl (hsl _ _ rfl) hK)) rfl rfl rfl ?_
              refine dq_cons (.p (eI 4)) [] trivial (fun sl hsl K hK => one_op rfl (ok_assign rfl rfl rfl rfl hK)) rfl rfl rfl ?_
              refine dq_nil ?_
              refine awp_ghost (ghost_le (t := ⟨[(4, .p (eI (iOr .i64 (iOr .i64 (iOr .i64 (iShl .i64 (iAnd .u8 (byt s_0 i_1) 7) 18) (iShl .i64 (iAnd .u8 (byt s_0 (i_1 + 1)) 63) 12)) (iShl .i64 (iAnd .u8 (byt s_0 (i_1 + 2)) 63) 6)) (iAnd .u8 (byt s_0 (i_1 + 3)) 63)))), (5, .p (eI 4))], []⟩) (le_mk ⟨er rfl, er rfl, trivial⟩ trivial)) ?_
              refine awp_ret ?_
              (repeat (first | refine uw ?_ | refine uo rfl ?_))
              have e0 := oi h0
              subst e0
              refine reta_mk rfl ?_
              exact sub_tuple ⟨sr, sr, trivial⟩
             ·replace h0 := if_bf c61 h0
              refine awp_skip (awp_seq (awp_reg ?_))
              refine ro rfl (ok_assign rfl rfl rfl rfl ?_)
              refine ro rfl (ok_assign rfl rfl rfl rfl ?_)
              refine rn ?_
              refine awp_ret ?_
              (repeat (first | refine uw ?_ | refine uo rfl ?_))
              have e0 := oi h0
              subst e0
              refine reta_mk rfl ?_
              exact sub_tuple ⟨sr, sr, trivial⟩
            ·skip
             refine awp_reg ?_
             refine ro rfl (ok_move rfl rfl rfl rfl ?_)
             refine ro rfl (ok_cmp rfl rfl rfl rfl rfl rfl ?_)
             refine ro rfl (ok_move rfl rfl rfl rfl ?_)
             refine gd_D rfl rfl rfl (fun c47 => ?_) (fun c47 => ?_)
             ·replace h1 := if_t c47 h1
              refine gd_tt rfl rfl rfl (dt c47) (ok_move rfl rfl rfl rfl ?_)
              refine gd_tt rfl rfl rfl (dt c47) (ok_cmp rfl rfl rfl rfl rfl rfl ?_)
              refine ro rfl (ok_pick_true rfl rfl rfl rfl (dt c47) rfl ?_)
              refine ro rfl (ok_move rfl rfl rfl rfl ?_)
              refine gd_D rfl rfl rfl (fun c48 => ?_) (fun c48 => ?_)
              ·replace h1 := if_t c48 h1
               refine gd_tt rfl rfl rfl (dt c48) (ok_move rfl rfl rfl rfl ?_)
               refine gd_tt rfl rfl rfl (dt c48) (ok_move rfl rfl rfl rfl ?_)
               obtain ⟨h49, h1⟩ := ck_cut h1
               refine gd_tt rfl rfl rfl (dt c48) (ok_ar rfl rfl rfl rfl rfl rfl h49 ?_)
               refine gd_tt rfl rfl rfl (dt c48) (ok_move rfl rfl rfl rfl ?_)
               refine gd_tt rfl rfl rfl (dt c48) (ok_move rfl rfl rfl rfl ?_)
               obtain ⟨r50, e51, h1⟩ := bd_cut h1
               refine gd_tt rfl rfl rfl (dt c48) (ok_callP (ref02_cont_ok s_0 (i_1 + 1) o93 o95 _ e51) rfl rfl rfl rfl ⟨sr, sr, sr, sr, trivial⟩ Try.call81 rfl ?_)
               refine ro rfl (ok_pick_true rfl rfl rfl rfl (dt c48) rfl ?_)
               refine ro rfl (ok_move rfl rfl rfl rfl ?_)
               refine gd_B rfl rfl rfl (fun c52 => ?_) (fun c52 => ?_)
               ·replace h1 := if_t c52 h1
                refine gd_tt rfl rfl rfl (c52) (ok_move rfl rfl rfl rfl ?_)
                refine gd_tt rfl rfl rfl (c52) (ok_move rfl rfl rfl rfl ?_)
                obtain ⟨h53, h1⟩ := ck_cut h1
                refine gd_tt rfl rfl rfl (c52) (ok_ar rfl rfl rfl rfl rfl rfl h53 ?_)
                obtain ⟨r54, e55, h1⟩ := bd_cut h1
                refine gd_tt rfl rfl rfl (c52) (ok_callP (ref02_cont_ok s_0 (i_1 + 2) 128 191 _ e55) rfl rfl rfl rfl ⟨sr, sr, sr, sr, trivial⟩ Try.call81 rfl ?_)
                refine ro rfl (ok_pick_true rfl rfl rfl rfl (c52) rfl ?_)
                refine ro rfl (ok_move rfl rfl rfl rfl ?_)
                refine gd_B rfl rfl rfl (fun c56 => ?_) (fun c56 => ?_)
                ·replace h1 := if_t c56 h1
                 refine gd_tt rfl rfl rfl (c56) (ok_move rfl rfl rfl rfl ?_)
                 refine gd_tt rfl rfl rfl (c56) (ok_move rfl rfl rfl rfl ?_)
                 obtain ⟨h57, h1⟩ := ck_cut h1
                 refine gd_tt rfl rfl rfl (c56) (ok_ar rfl rfl rfl rfl rfl rfl h57 ?_)
                 obtain ⟨r58, e59, h1⟩ := bd_cut h1
                 refine gd_tt rfl rfl rfl (c56) (ok_callP (ref02_cont_ok s_0 (i_1 + 3) 128 191 _ e59) rfl rfl rfl rfl ⟨sr, sr, sr, sr, trivial⟩ Try.call81 rfl ?_)
                 refine ro rfl (ok_pick_true rfl rfl rfl rfl (c56) rfl ?_)
                 refine rn ?_
                 (repeat (first | refine uw ?_ | refine uo rfl ?_))
                 have e1 := oi h1
                 subst e1
                 exact ghost_le (le_mk ⟨er rfl, er rfl, er rfl, er rfl, trivial⟩ trivial)
                ·replace h1 := if_bf c56 h1
                 refine gd_tf rfl rfl rfl (c56) rfl rfl ?_
                 refine gd_tf rfl rfl rfl (c56) rfl rfl ?_
                 refine gd_tf rfl rfl rfl (c56) rfl rfl ?_
                 refine gd_tf rfl rfl rfl (c56) rfl rfl ?_
                 refine ro rfl (ok_pick_false rfl rfl rfl rfl (c56) rfl ?_)
                 refine rn ?_
                 (repeat (first | refine uw ?_ | refine uo rfl ?_))
                 have e1 := oi h1
                 subst e1
                 exact ghost_le (le_mk ⟨er rfl, er rfl, er rfl, er rfl, trivial⟩ trivial)
               ·replace h1 := if_bf c52 h1
                refine gd_tf rfl rfl rfl (c52) rfl rfl ?_
                refine gd_tf rfl rfl rfl (c52) rfl rfl ?_
                refine gd_tf rfl rfl rfl (c52) rfl rfl ?_
                refine gd_tf rfl rfl rfl (c52) rfl rfl ?_
                refine ro rfl (ok_pick_false rfl rfl rfl rfl (c52) rfl ?_)
                refine ro rfl (ok_move rfl rfl rfl rfl ?_)
                refine gd_tf rfl rfl rfl (rfl) rfl rfl ?_
                refine gd_tf rfl rfl rfl (rfl) rfl rfl ?_
                refine gd_tf rfl rfl rfl (rfl) rfl rfl ?_
                refine gd_tf rfl rfl rfl (rfl) rfl rfl ?_
                refine ro rfl (ok_pick_false rfl rfl rfl rfl (rfl) rfl ?_)
                refine rn ?_
                (repeat (first | refine uw ?_ | refine uo rfl ?_))
                have e1 := oi h1
                subst e1
                exact ghost_le (le_mk ⟨er rfl, er rfl, er rfl, er rfl, trivial⟩ trivial)
              ·replace h1 := if_f c48 h1
               refine gd_tf rfl rfl rfl (df c48) rfl rfl ?_
               refine gd_tf rfl rfl rfl (df c48) rfl rfl ?_
               refine gd_tf rfl rfl rfl (df c48) rfl rfl ?_
               refine gd_tf rfl rfl rfl (df c48) rfl rfl ?_
               refine gd_tf rfl rfl rfl (df c48) rfl rfl ?_
               refine gd_tf rfl rfl rfl (df c48) rfl rfl ?_
               refine ro rfl (ok_pick_false rfl rfl rfl rfl (df c48) rfl ?_)
               refine ro rfl (ok_move rfl rfl rfl rfl ?_)
               refine gd_tf rfl rfl rfl (rfl) rfl rfl ?_
               refine gd_tf rfl rfl rfl (rfl) rfl rfl ?_
               refine gd_tf rfl rfl rfl (rfl) rfl rfl ?_
               refine gd_tf rfl rfl rfl (rfl) rfl rfl ?_
               refine ro rfl (ok_pick_false rfl rfl rfl rfl (rfl) rfl ?_)
               refine ro rfl (ok_move rfl rfl rfl rfl ?_)
               refine gd_tf rfl rfl rfl (rfl) rfl rfl ?_
               refine gd_tf rfl rfl rfl (rfl) rfl rfl ?_
               refine gd_tf rfl rfl rfl (rfl) rfl rfl ?_
               refine gd_tf rfl rfl rfl (rfl) rfl rfl ?_
               refine ro rfl (ok_pick_false rfl rfl rfl rfl (rfl) rfl ?_)
               refine rn ?_
               (repeat (first | refine uw ?_ | refine uo rfl ?_))
               have e1 := oi h1
               subst e1
               exact ghost_le (le_mk ⟨er rfl, er rfl, er rfl, er rfl, trivial⟩ trivial)
             ·replace h1 := if_f c47 h1
              refine gd_tf rfl rfl rfl (df c47) rfl rfl ?_
              refine gd_tf rfl rfl rfl (df c47) rfl rfl ?_
              refine ro rfl (ok_pick_false rfl rfl rfl rfl (df c47) rfl ?_)
              refine ro rfl (ok_move rfl rfl rfl rfl ?_)
              refine gd_tf rfl rfl rfl (rfl) rfl rfl ?_
              refine gd_tf rfl rfl rfl (rfl) rfl rfl ?_
              refine gd_tf rfl rfl rfl (rfl) rfl rfl ?_
              refine gd_tf rfl rfl rfl (rfl) rfl rfl ?_
              refine gd_tf rfl rfl rfl (rfl) rfl rfl ?_
              refine gd_tf rfl rfl rfl (rfl) rfl rfl ?_
              refine ro rfl (ok_pick_false rfl rfl rfl rfl (rfl) rfl ?_)
              refine ro rfl (ok_move rfl rfl rfl rfl ?_)
              refine gd_tf rfl rfl rfl (rfl) rfl rfl ?_
              refine gd_tf rfl rfl rfl (rfl) rfl rfl ?_
              refine gd_tf rfl rfl rfl (rfl) rfl rfl ?_
              refine gd_tf rfl rfl rfl (rfl) rfl rfl ?_
              refine ro rfl (ok_pick_false rfl rfl rfl rfl (rfl) rfl ?_)
              refine ro rfl (ok_move rfl rfl rfl rfl ?_)
              refine gd_tf rfl rfl rfl (rfl) rfl rfl ?_
              refine gd_tf rfl rfl rfl (rfl) rfl rfl ?_
              refine gd_tf rfl rfl rfl (rfl) rfl rfl ?_
              refine gd_tf rfl rfl rfl (rfl) rfl rfl ?_
              refine ro rfl (ok_pick_false rfl rfl rfl rfl (rfl) rfl ?_)
              refine rn ?_
              (repeat (first | refine uw ?_ | refine uo rfl ?_))
              have e1 := oi h1
              subst e1
              exact ghost_le (le_mk ⟨er rfl, er rfl, er rfl, er rfl, trivial⟩ trivial)
           ·skip
            refine awp_seq (awp_reg ?_)
            refine ro rfl (ok_move rfl rfl rfl rfl ?_)
            refine ro rfl (ok_cmp rfl rfl rfl rfl rfl rfl ?_)
            refine rn ?_
            refine wp_ifD rfl (fun c45 => ?_) (fun c45 => ?_)
            ·replace h1 := if_t c45 h1
             refine awp_reg ?_
             refine ro rfl (ok_assign rfl rfl rfl rfl ?_)
             refine rn ?_
             (repeat (first | refine uw ?_ | refine uo rfl ?_))
             have e1 := oi h1
             subst e1
             exact ghost_le (le_mk ⟨er rfl, er rfl, er rfl, er rfl, er rfl, trivial⟩ trivial)
            ·replace h1 := if_f c45 h1
             refine awp_skip ?_
             (repeat (first | refine uw ?_ | refine uo rfl ?_))
             have e1 := oi h1
             subst e1
             exact ghost_le (le_mk ⟨er rfl, er rfl, er rfl, er rfl, er rfl, trivial⟩ trivial)
          ·skip
           refine awp_seq (awp_reg ?_)
           refine ro rfl (ok_move rfl rfl rfl rfl ?_)
           refine ro rfl (ok_cmp rfl rfl rfl rfl rfl rfl ?_)
           refine rn ?_
           refine wp_ifD rfl (fun c43 => ?_) (fun c43 => ?_)
           ·replace h1 := if_t c43 h1
            refine awp_reg ?_
            refine ro rfl (ok_assign rfl rfl rfl rfl ?_)
            refine rn ?_
            (repeat (first | refine uw ?_ | refine uo rfl ?_))
            have e1 := oi h1
            subst e1
            exact ghost_le (le_mk ⟨er rfl, er rfl, er rfl, er rfl, er rfl, trivial⟩ trivial)
           ·replace h1 := if_f c43 h1
            refine awp_skip ?_
            (repeat (first | refine uw ?_ | refine uo rfl ?_))
            have e1 := oi h1
            subst e1
            exact ghost_le (le_mk ⟨er rfl, er rfl, er rfl, er rfl, er rfl, trivial⟩ trivial)
        ·skip
         refine awp_reg ?_
         refine ro rfl (ok_move rfl rfl rfl rfl ?_)
         refine ro rfl (ok_cmp rfl rfl rfl rfl rfl rfl ?_)
         refine ro rfl (ok_move rfl rfl rfl rfl ?_)
         refine gd_D rfl rfl rfl (fun c23 => ?_) (fun c23 => ?_)
         ·replace h1 := if_t c23 h1
          refine gd_tt rfl rfl rfl (dt c23) (ok_move rfl rfl rfl rfl ?_)
          refine gd_tt rfl rfl rfl (dt c23) (ok_cmp rfl rfl rfl rfl rfl rfl ?_)
          refine ro rfl (ok_pick_true rfl rfl rfl rfl (dt c23) rfl ?_)
          refine ro rfl (ok_move rfl rfl rfl rfl ?_)
          refine gd_D rfl rfl rfl (fun c24 => ?_) (fun c24 => ?_)
          ·replace h1 := if_t c24 h1
           refine gd_tt rfl rfl rfl (dt c24) (ok_move rfl rfl rfl rfl ?_)
           refine gd_tt rfl rfl rfl (dt c24) (ok_move rfl rfl rfl rfl ?_)
           obtain ⟨h25, h1⟩ := ck_cut h1
           refine gd_tt rfl rfl rfl (dt c24) (ok_ar rfl rfl rfl rfl rfl rfl h25 ?_)
           refine gd_tt rfl rfl rfl (dt c24) (ok_move rfl rfl rfl rfl ?_)
           refine gd_tt rfl rfl rfl (dt c24) (ok_move rfl rfl rfl rfl ?_)
           obtain ⟨r26, e27, h1⟩ := bd_cut h1
           refine gd_tt rfl rfl rfl (dt c24) (ok_callP (ref02_cont_ok s_0 (i_1 + 1) o87 o89 _ e27) rfl rfl rfl rfl ⟨sr, sr, sr, sr, trivial⟩ Try.call81 rfl ?_)
           refine ro rfl (ok_pick_true rfl rfl rfl rfl (dt c24) rfl ?_)
           refine ro rfl (ok_move rfl rfl rfl rfl ?_)
           refine gd_B rfl rfl rfl (fun c28 => ?_) (fun c28 => ?_)
           ·replace h1 := if_t c28 h1
            refine gd_tt rfl rfl rfl (c28) (ok_move rfl rfl rfl rfl ?_)
            refine gd_tt rfl rfl rfl (c28) (ok_move rfl rfl rfl rfl ?_)
            obtain ⟨h29, h1⟩ := ck_cut h1
            refine gd_tt rfl rfl rfl (c28) (ok_ar rfl rfl rfl rfl rfl rfl h29 ?_)
            obtain ⟨r30, e31, h1⟩ := bd_cut h1
            refine gd_tt rfl rfl rfl (c28) (ok_callP (ref02_cont_ok s_0 (i_1 + 2) 128 191 _ e31) rfl rfl rfl rfl ⟨sr, sr, sr, sr, trivial⟩ Try.call81 rfl ?_)
            refine ro rfl (ok_pick_true rfl rfl rfl rfl (c28) rfl ?_)
            refine rn ?_
            (repeat (first | refine uw ?_ | refine uo rfl ?_))
            have e1 := oi h1
            subst e1
            exact ghost_le (le_mk ⟨er rfl, er rfl, er rfl, er rfl, trivial⟩ trivial)
           ·replace h1 := if_bf c28 h1
            refine gd_tf rfl rfl rfl (c28) rfl rfl ?_
            refine gd_tf rfl rfl rfl (c28) rfl rfl ?_
            refine gd_tf rfl rfl rfl (c28) rfl rfl ?_
            refine gd_tf rfl rfl rfl (c28) rfl rfl ?_
            refine ro rfl (ok_pick_false rfl rfl rfl rfl (c28) rfl ?_)
            refine rn ?_
            (repeat (first | refine uw ?_ | refine uo rfl ?_))
            have e1 := oi h1
            subst e1
            exact ghost_le (le_mk ⟨er rfl, er rfl, er rfl, er rfl, trivial⟩ trivial)
          ·replace h1 := if_f c24 h1
           refine gd_tf rfl rfl rfl (df c24) rfl rfl ?_
           refine gd_tf rfl rfl rfl (df c24) rfl rfl ?_
           refine gd_tf rfl rfl rfl (df c24) rfl rfl ?_
           refine gd_tf rfl rfl rfl (df c24) rfl rfl ?_
           refine gd_tf rfl rfl rfl (df c24) rfl rfl ?_
           refine gd_tf rfl rfl rfl (df c24) rfl rfl ?_
           refine ro rfl (ok_pick_false rfl rfl rfl rfl (df c24) rfl ?_)
           refine ro rfl (ok_move rfl rfl rfl rfl ?_)
           refine gd_tf rfl rfl rfl (rfl) rfl rfl ?_
           refine gd_tf rfl rfl rfl (rfl) rfl rfl ?_
           refine gd_tf rfl rfl rfl (rfl) rfl rfl ?_
           refine gd_tf rfl rfl rfl (rfl) rfl rfl ?_
           refine ro rfl (ok_pick_false rfl rfl rfl rfl (rfl) rfl ?_)
           refine rn ?_
           (repeat (first | refine uw ?_ | refine uo rfl ?_))
           have e1 := oi h1
           subst e1
           exact ghost_le (le_mk ⟨er rfl, er rfl, er rfl, er rfl, trivial⟩ trivial)
         ·replace h1 := if_f c23 h1
          refine gd_tf rfl rfl rfl (df c23) rfl rfl ?_
          refine gd_tf rfl rfl rfl (df c23) rfl rfl ?_
          refine ro rfl (ok_pick_false rfl rfl rfl rfl (df c23) rfl ?_)
          refine ro rfl (ok_move rfl rfl rfl rfl ?_)
          refine gd_tf rfl rfl rfl (rfl) rfl rfl ?_
          refine gd_tf rfl rfl rfl (rfl) rfl rfl ?_
          refine gd_tf rfl rfl rfl (rfl) rfl rfl ?_
          refine gd_tf rfl rfl rfl (rfl) rfl rfl ?_
          refine gd_tf rfl rfl rfl (rfl) rfl rfl ?_
          refine gd_tf rfl rfl rfl (rfl) rfl rfl ?_
          refine ro rfl (ok_pick_false rfl rfl rfl rfl (rfl) rfl ?_)
          refine ro rfl (ok_move rfl rfl rfl rfl ?_)
          refine gd_tf rfl rfl rfl (rfl) rfl rfl ?_
          refine gd_tf rfl rfl rfl (rfl) rfl rfl ?_
          refine gd_tf rfl rfl rfl (rfl) rfl rfl ?_
          refine gd_tf rfl rfl rfl (rfl) rfl rfl ?_
          refine ro rfl (ok_pick_false rfl rfl rfl rfl (rfl) rfl ?_)
          refine rn ?_
          (repeat (first | refine uw ?_ | refine uo rfl ?_))
          have e1 := oi h1
          subst e1
          exact ghost_le (le_mk ⟨er rfl, er rfl, er rfl, er rfl, trivial⟩ trivial)
       ·skip
        refine awp_seq (awp_reg ?_)
        refine ro rfl (ok_move rfl rfl rfl rfl ?_)
        refine ro rfl (ok_cmp rfl rfl rfl rfl rfl rfl ?_)
        refine rn ?_
        refine wp_ifD rfl (fun c21 => ?_) (fun c21 => ?_)
        ·replace h1 := if_t c21 h1
         refine awp_reg ?_
         refine ro rfl (ok_assign rfl rfl rfl rfl ?_)
         refine rn ?_
         (repeat (first | refine uw ?_ | refine uo rfl ?_))
         have e1 := oi h1
         subst e1
         exact ghost_le (le_mk ⟨er rfl, er rfl, er rfl, er rfl, er rfl, trivial⟩ trivial)
        ·replace h1 := if_f c21 h1
         refine awp_skip ?_
         (repeat (first | refine uw ?_ | refine uo rfl ?_))
         have e1 := oi h1
         subst e1
         exact ghost_le (le_mk ⟨er rfl, er rfl, er rfl, er rfl, er rfl, trivial⟩ trivial)
      ·skip
       refine awp_seq (awp_reg ?_)
       refine ro rfl (ok_move rfl rfl rfl rfl ?_)
       refine ro rfl (ok_cmp rfl rfl rfl rfl rfl rfl ?_)
       refine rn ?_
       refine wp_ifD rfl (fun c19 => ?_) (fun c19 => ?_)
       ·replace h1 := if_t c19 h1
        refine awp_reg ?_
        refine ro rfl (ok_assign rfl rfl rfl rfl ?_)
        refine rn ?_
        (repeat (first | refine uw ?_ | refine uo rfl ?_))
        have e1 := oi h1
        subst e1
        exact ghost_le (le_mk ⟨er rfl, er rfl, er rfl, er rfl, er rfl, trivial⟩ trivial)
       ·replace h1 := if_f c19 h1
        refine awp_skip ?_
        (repeat (first | refine uw ?_ | refine uo rfl ?_))
        have e1 := oi h1
        subst e1
        exact ghost_le (le_mk ⟨er rfl, er rfl, er rfl, er rfl, er rfl, trivial⟩ trivial)
    ·skip
     refine awp_reg ?_
     refine ro rfl (ok_move rfl rfl rfl rfl ?_)
     refine ro rfl (ok_cmp rfl rfl rfl rfl rfl rfl ?_)
     refine ro rfl (ok_move rfl rfl rfl rfl ?_)
     refine gd_D rfl rfl rfl (fun c7 => ?_) (fun c7 => ?_)
     ·replace h1 := if_t c7 h1
      refine gd_tt rfl rfl rfl (dt c7) (ok_move rfl rfl rfl rfl ?_)
      refine gd_tt rfl rfl rfl (dt c7) (ok_cmp rfl rfl rfl rfl rfl rfl ?_)
      refine ro rfl (ok_pick_true rfl rfl rfl rfl (dt c7) rfl ?_)
      refine ro rfl (ok_move rfl rfl rfl rfl ?_)
      refine gd_D rfl rfl rfl (fun c8 => ?_) (fun c8 => ?_)
      ·replace h1 := if_t c8 h1
       refine gd_tt rfl rfl rfl (dt c8) (ok_move rfl rfl rfl rfl ?_)
       refine gd_tt rfl rfl rfl (dt c8) (ok_move rfl rfl rfl rfl ?_)
       obtain ⟨h9, h1⟩ := ck_cut h1
       refine gd_tt rfl rfl rfl (dt c8) (ok_ar rfl rfl rfl rfl rfl rfl h9 ?_)
       obtain ⟨r10, e11, h1⟩ := bd_cut h1
       refine gd_tt rfl rfl rfl (dt c8) (ok_callP (ref02_cont_ok s_0 (i_1 + 1) 128 191 _ e11) rfl rfl rfl rfl ⟨sr, sr, sr, sr, trivial⟩ Try.call81 rfl ?_)
       refine ro rfl (ok_pick_true rfl rfl rfl rfl (dt c8) rfl ?_)
       refine rn ?_
       (repeat (first | refine uw ?_ | refine uo rfl ?_))
       have e1 := oi h1
       subst e1
       exact ghost_le (le_mk ⟨er rfl, er rfl, er rfl, er rfl, trivial⟩ trivial)
      ·replace h1 := if_f c8 h1
       refine gd_tf rfl rfl rfl (df c8) rfl rfl ?_
       refine gd_tf rfl rfl rfl (df c8) rfl rfl ?_
       refine gd_tf rfl rfl rfl (df c8) rfl rfl ?_
       refine gd_tf rfl rfl rfl (df c8) rfl rfl ?_
       refine ro rfl (ok_pick_false rfl rfl rfl rfl (df c8) rfl ?_)
       refine rn ?_
       (repeat (first | refine uw ?_ | refine uo rfl ?_))
       have e1 := oi h1
       subst e1
       exact ghost_le (le_mk ⟨er rfl, er rfl, er rfl, er rfl, trivial⟩ trivial)
     ·replace h1 := if_f c7 h1
      refine gd_tf rfl rfl rfl (df c7) rfl rfl ?_
      refine gd_tf rfl rfl rfl (df c7) rfl rfl ?_
      refine ro rfl (ok_pick_false rfl rfl rfl rfl (df c7) rfl ?_)
      refine ro rfl (ok_move rfl rfl rfl rfl ?_)
      refine gd_tf rfl rfl rfl (rfl) rfl rfl ?_
      refine gd_tf rfl rfl rfl (rfl) rfl rfl ?_
      refine gd_tf rfl rfl rfl (rfl) rfl rfl ?_
      refine gd_tf rfl rfl rfl (rfl) rfl rfl ?_
      refine ro rfl (ok_pick_false rfl rfl rfl rfl (rfl) rfl ?_)
      refine rn ?_
      (repeat (first | refine uw ?_ | refine uo rfl ?_))
      have e1 := oi h1
      subst e1
      exact ghost_le (le_mk ⟨er rfl, er rfl, er rfl, er rfl, trivial⟩ trivial)
 ·skip
  refine awp_reg ?_
  refine ro rfl (ok_move rfl rfl rfl rfl ?_)
  refine ro rfl (ok_cmp rfl rfl rfl rfl rfl rfl ?_)
  refine ro rfl (ok_move rfl rfl rfl rfl ?_)
  refine gd_D rfl rfl rfl (fun c1 => ?_) (fun c1 => ?_)
  ·replace h1 := if_t c1 h1
   refine gd_ft rfl rfl rfl (dt c1) rfl rfl ?_
   refine gd_ft rfl rfl rfl (dt c1) rfl rfl ?_
   refine gd_ft rfl rfl rfl (dt c1) rfl rfl ?_
   refine gd_ft rfl rfl rfl (dt c1) rfl rfl ?_
   refine ro rfl (ok_pick_true rfl rfl rfl rfl (dt c1) rfl ?_)
   refine rn ?_
   (repeat (first | refine uw ?_ | refine uo rfl ?_))
   have e1 := oi h1
   subst e1
   exact ghost_le (le_mk ⟨er rfl, er rfl, er rfl, trivial⟩ trivial)
  ·replace h1 := if_f c1 h1
   refine gd_ff rfl rfl rfl (df c1) (ok_move rfl rfl rfl rfl ?_)
   refine gd_ff rfl rfl rfl (df c1) (ok_move rfl rfl rfl rfl ?_)
   refine gd_ff rfl rfl rfl (df c1) (ok_lenS rfl rfl rfl rfl rfl rfl ?_)
   refine gd_ff rfl rfl rfl (df c1) (ok_cmp rfl rfl rfl rfl rfl rfl ?_)
   refine ro rfl (ok_pick_false rfl rfl rfl rfl (df c1) rfl ?_)
   refine rn ?_
   (repeat (first | refine uw ?_ | refine uo rfl ?_))
   have e1 := oi h1
   subst e1
   exact ghost_le (le_mk ⟨er rfl, er rfl, er rfl, trivial⟩ trivial)

def ref02_Valid_l1 (s_0 : Bytes) : Nat → Int → Option (Unit ⊕ Bool)
 | 0, _ => none
 | m + 1, i8 =>
 if i8 < (s_0.length : Int) then
  (ref02_Decode s_0 i8).bind fun r10 =>
  if r10.2 = 0 then
   some (.inr false)
  else
   ck (inR (i8 + r10.2)) <|
   ref02_Valid_l1 s_0 m (i8 + r10.2)
 else
  some (.inl ())

def ref02_Valid (n : Nat) (s_0 : Bytes) : Option Bool :=
 if 4096 < (s_0.length : Int) then
  some false
 else
  jn (ref02_Valid_l1 s_0 n 0) fun q15 =>
  some true

set_option maxHeartbeats 4000000 in
theorem ref02_Valid_ok (n : Nat) (s_0 : Bytes) (r : Bool) (h0 : ref02_Valid n s_0 = some r) : PCalls Try.prog 60 [eS s_0] (· = .p (eB r)) := by
 unfold ref02_Valid at h0
 refine pbodyA good Try.func60 rfl rfl rfl fun w0 => ?_
 refine awp_seq (awp_reg ?_)
 refine ro rfl (ok_assign rfl rfl rfl rfl ?_)
 refine rn ?_
 refine awp_seq (awp_seq (awp_reg ?_))
 refine ro rfl (ok_move rfl rfl rfl rfl ?_)
 refine ro rfl (ok_lenS rfl rfl rfl rfl rfl rfl ?_)
 refine ro rfl (ok_cmp rfl rfl rfl rfl rfl rfl ?_)
 refine rn ?_
 refine wp_ifD rfl (fun c1 => ?_) (fun c1 => ?_)
 ·replace h0 := if_t c1 h0
  refine awp_seq (awp_reg ?_)
  refine ro rfl (ok_assign rfl rfl rfl rfl ?_)
  refine rn ?_
  refine awp_ret ?_
  (repeat (first | refine uw ?_ | refine uo rfl ?_))
  have e0 := oi h0
  subst e0
  refine reta_mk rfl ?_
  exact sr
 ·replace h0 := if_f c1 h0
  refine awp_skip (awp_seq (awp_seq (awp_reg ?_)))
  refine ro rfl (ok_assign rfl rfl rfl rfl ?_)
  refine rn ?_
  refine awp_block ?_
  obtain ⟨o16, h1, hL0, hR0⟩ := jn_cut h0
  refine awp_joinEx 0 (fun v17 : Unit => o16 = .inl v17) (fun v17 => ⟨[], []⟩) ?_ ?_
  ·rintro s' ⟨v17, hv, hle⟩
   have h0 := hL0 _ hv
   (repeat (first | refine uw ?_ | refine uo rfl ?_))
   refine awp_ghost hle ?_
   (repeat (first | refine uw ?_ | refine uo rfl ?_))
   refine awp_seq (awp_reg ?_)
   refine ro rfl (ok_assign rfl rfl rfl rfl ?_)
   refine rn ?_
   refine awp_ret ?_
   (repeat (first | refine uw ?_ | refine uo rfl ?_))
   have e0 := oi h0
   subst e0
   refine reta_mk rfl ?_
   exact sr
  ·skip
   refine awp_loopG (fun q18 => ⟨[(0, .p (eS s_0)), (3, .p (eI q18))], []⟩) (fun m (q18 : Int) => ref02_Valid_l1 s_0 m q18) (fun _ => rfl) 0 h1 (ghost_le (le_mk ⟨er rfl, er rfl, trivial⟩ trivial)) ?_
   rintro m i8 h1
   replace h1 : ref02_Valid_l1 s_0 (m + 1) i8 = some o16 := h1
   rw [ref02_Valid_l1] at h1
   refine awp_seq (awp_seq (awp_reg ?_))
   refine ro rfl (ok_move rfl rfl rfl rfl ?_)
   refine ro rfl (ok_move rfl rfl rfl rfl ?_)
   refine ro rfl (ok_lenS rfl rfl rfl rfl rfl rfl ?_)
   refine ro rfl (ok_cmp rfl rfl rfl rfl rfl rfl ?_)
   refine rn ?_
   refine wp_ifD rfl (fun c9 => ?_) (fun c9 => ?_)
   ·replace h1 := if_t c9 h1
    refine awp_skip (awp_block (awp_seq (awp_reg ?_)))
    refine ro rfl (ok_move rfl rfl rfl rfl ?_)
    refine ro rfl (ok_move rfl rfl rfl rfl ?_)
    obtain ⟨r10, e11, h1⟩ := bd_cut h1
    refine ro rfl (ok_callP (ref02_Decode_ok s_0 i8 _ e11) rfl rfl rfl rfl ⟨sr, sr, trivial⟩ Try.call72 rfl ?_)
    refine ro rfl (ok_move rfl rfl rfl rfl ?_)
    refine ro rfl (ok_extract rfl rfl rfl rfl rfl ?_)
    refine ro rfl (ok_extract rfl rfl rfl rfl rfl ?_)
    refine ro rfl (ok_assign rfl rfl rfl rfl ?_)
    refine ro rfl (ok_assign rfl rfl rfl rfl ?_)
    refine rn ?_
    refine awp_seq (awp_seq (awp_reg ?_))
    refine ro rfl (ok_move rfl rfl rfl rfl ?_)
    refine ro rfl (ok_cmp rfl rfl rfl rfl rfl rfl ?_)
    refine rn ?_
    refine wp_ifD rfl (fun c12 => ?_) (fun c12 => ?_)
    ·replace h1 := if_t c12 h1
     refine awp_seq (awp_reg ?_)
     refine ro rfl (ok_assign rfl rfl rfl rfl ?_)
     refine rn ?_
     refine awp_ret ?_
     (repeat (first | refine uw ?_ | refine uo rfl ?_))
     have e1 := oi h1
     have e0 := hR0 _ e1.symm
     subst e0
     refine reta_mk rfl ?_
     exact sr
    ·replace h1 := if_f c12 h1
     refine awp_skip (awp_reg ?_)
     refine ro rfl (ok_move rfl rfl rfl rfl ?_)
     refine ro rfl (ok_move rfl rfl rfl rfl ?_)
     obtain ⟨h13, h1⟩ := ck_cut h1
     refine ro rfl (ok_ar rfl rfl rfl rfl rfl rfl h13 ?_)
     refine ro rfl (ok_assign rfl rfl rfl rfl ?_)
     refine rn ?_
     (repeat (first | refine uw ?_ | refine uo rfl ?_))
     (repeat (first | refine uw ?_ | refine uo rfl ?_))
     exact ⟨(i8 + r10.2), h1, ghost_le (le_mk ⟨er rfl, er rfl, trivial⟩ trivial)⟩
   ·replace h1 := if_f c9 h1
    refine awp_exit ?_
    (repeat (first | refine uw ?_ | refine uo rfl ?_))
    have e1 := oi h1
    exact ⟨_, e1.symm, ghost_le (le_mk trivial trivial)⟩

def ref07_text (n : Nat) (s_0 : Bytes) : Option Int :=
 if 4096 < (s_0.length : Int) then
  some 3
 else
  (ref02_Valid n s_0).bind fun r2 =>
  if (!r2) = true then
   some 1
  else
   some 0

set_option maxHeartbeats 4000000 in
theorem ref07_text_ok (n : Nat) (s_0 : Bytes) (r : Int) (h0 : ref07_text n s_0 = some r) : PCalls Try.prog 86 [eS s_0] (· = .p (eI r)) := by
 unfold ref07_text at h0
 refine pbodyA good Try.func86 rfl rfl rfl fun w0 => ?_
 refine awp_seq (awp_reg ?_)
 refine ro rfl (ok_assign rfl rfl rfl rfl ?_)
 refine rn ?_
 refine awp_seq (awp_seq (awp_reg ?_))
 refine ro rfl (ok_move rfl rfl rfl rfl ?_)
 refine ro rfl (ok_lenS rfl rfl rfl rfl rfl rfl ?_)
 refine ro rfl (ok_cmp rfl rfl rfl rfl rfl rfl ?_)
 refine rn ?_
 refine wp_ifD rfl (fun c1 => ?_) (fun c1 => ?_)
 ·replace h0 := if_t c1 h0
  refine awp_seq (awp_reg ?_)
  refine ro rfl (ok_assign rfl rfl rfl rfl ?_)
  refine rn ?_
  refine awp_ret ?_
  (repeat (first | refine uw ?_ | refine uo rfl ?_))
  have e0 := oi h0
  subst e0
  refine reta_mk rfl ?_
  exact sr
 ·replace h0 := if_f c1 h0
  refine awp_skip (awp_seq (awp_seq (awp_reg ?_)))
  refine ro rfl (ok_move rfl rfl rfl rfl ?_)
  obtain ⟨r2, e3, h0⟩ := bd_cut h0
  refine ro rfl (ok_callP (ref02_Valid_ok _ s_0 _ e3) rfl rfl rfl rfl ⟨sr, trivial⟩ Try.call60 rfl ?_)
  refine ro rfl (ok_not rfl rfl rfl rfl ?_)
  refine rn ?_
  refine wp_if rfl (fun c4 => ?_) (fun c4 => ?_)
  ·replace h0 := if_t c4 h0
   refine awp_seq (awp_reg ?_)
   refine ro rfl (ok_assign rfl rfl rfl rfl ?_)
   refine rn ?_
   refine awp_ret ?_
   (repeat (first | refine uw ?_ | refine uo rfl ?_))
   have e0 := oi h0
   subst e0
   refine reta_mk rfl ?_
   exact sr
  ·replace h0 := if_bf c4 h0
   refine awp_skip (awp_seq (awp_reg ?_))
   refine ro rfl (ok_assign rfl rfl rfl rfl ?_)
   refine rn ?_
   refine awp_ret ?_
   (repeat (first | refine uw ?_ | refine uo rfl ?_))
   have e0 := oi h0
   subst e0
   refine reta_mk rfl ?_
   exact sr

def ref07_node_l1 (n : Nat) (v_0 : TValue) : Nat → Int → Option (Unit ⊕ Int)
 | 0, _ => none
 | m + 1, i25 =>
 if i25 < (v_0.fKeys.length : Int) then
  ck ((0 : Int) ≤ i25 ∧ i25 < (v_0.fKeys.length : Int)) <|
  (ref07_text n (lat v_0.fKeys i25)).bind fun r28 =>
  if r28 = 0 then
   (
     if 0 < i25 then
      ck (inR (i25 - 1)) <|
      ck ((0 : Int) ≤ i25 - 1 ∧ i25 - 1 < (v_0.fKeys.length : Int)) <|
      ck ((0 : Int) ≤ i25 ∧ i25 < (v_0.fKeys.length : Int)) <|
      some (!Op.bytesLess (lat v_0.fKeys (i25 - 1)) (lat v_0.fKeys i25))
     else
      some false
    : Option Bool).bind fun t35 =>
   if t35 = true then
    some (.inr 1)
   else
    ck (inR (i25 + 1)) <|
    ref07_node_l1 n v_0 m (i25 + 1)
  else
   some (.inr r28)
 else
  some (.inl ())

def ref07_node (n : Nat) (v_0 : TValue) : Option Int :=
 (ref07_shaped v_0).bind fun r1 =>
 if (!r1) = true then
  some 1
 else
  (
    if v_0.fKind = 2 then
     (ref01_Valid v_0.fNum).bind fun r5 =>
     some (!r5)
    else
     some false
   : Option Bool).bind fun t7 =>
  if t7 = true then
   some 5
  else
   (ref07_text n v_0.fStr).bind fun r9 =>
   if r9 = 0 then
    jn (ref07_node_l1 n v_0 n 0) fun q40 =>
    some 0
   else
    some r9

set_option maxHeartbeats 4000000 in
theorem ref07_node_ok (n : Nat) (v_0 : TValue) (r : Int) (h0 : ref07_node n v_0 = some r) : PCalls Try.prog 83 [.agg (TValue.cs v_0)] (· = .p (eI r)) := by
 unfold ref07_node at h0
 refine pbodyA good Try.func83 rfl rfl rfl fun w0 => ?_
 refine awp_seq (awp_reg ?_)
 refine ro rfl (ok_box rfl rfl rfl rfl rfl ?_)
 refine ro rfl (ok_assign rfl rfl rfl rfl ?_)
 refine rn ?_
 refine awp_seq (awp_seq (awp_reg ?_))
 refine ro rfl (ok_loadPA rfl rfl rfl rfl rfl rfl rfl rfl rfl ?_)
 obtain ⟨r1, e2, h0⟩ := bd_cut h0
 refine ro rfl (ok_callP (ref07_shaped_ok v_0 _ e2) rfl rfl rfl rfl ⟨sr, trivial⟩ Try.call84 rfl ?_)
 refine ro rfl (ok_not rfl rfl rfl rfl ?_)
 refine rn ?_
 refine wp_if rfl (fun c3 => ?_) (fun c3 => ?_)
 ·replace h0 := if_t c3 h0
  refine awp_seq (awp_reg ?_)
  refine ro rfl (ok_assign rfl rfl rfl rfl ?_)
  refine rn ?_
  refine awp_ret ?_
  (repeat (first | refine uw ?_ | refine uo rfl ?_))
  have e0 := oi h0
  subst e0
  refine reta_mk rfl ?_
  exact sr
 ·replace h0 := if_bf c3 h0
  refine awp_skip (awp_seq (awp_seq ?_))
  obtain ⟨o42, h1, h0⟩ := bd_cut h0
  refine awp_joinN ⟨[(1, .ptr 1 0), (17, .p (eB o42))], [(1, [.p (eI v_0.fKind), .p (eI v_0.fNum), .p (eS v_0.fStr), .p (eL eTValue v_0.fItems), .p (eL eS v_0.fKeys)])]⟩ ?_ ?_
  ·intro s' hle
   (repeat (first | refine uw ?_ | refine uo rfl ?_))
   refine awp_ghost hle ?_
   refine wp_if rfl (fun c8 => ?_) (fun c8 => ?_)
   ·replace h0 := if_t c8 h0
    refine awp_seq (awp_reg ?_)
    refine ro rfl (ok_assign rfl rfl rfl rfl ?_)
    refine rn ?_
    refine awp_ret ?_
    (repeat (first | refine uw ?_ | refine uo rfl ?_))
    have e0 := oi h0
    subst e0
    refine reta_mk rfl ?_
    exact sr
   ·replace h0 := if_bf c8 h0
    refine awp_skip (awp_seq (awp_seq (awp_reg ?_)))
    refine ro rfl (ok_fieldAddrP rfl rfl rfl rfl rfl rfl rfl rfl rfl ?_)
    refine ro rfl (ok_loadP1 rfl rfl rfl rfl rfl rfl rfl rfl ?_)
    obtain ⟨r9, e10, h0⟩ := bd_cut h0
    refine ro rfl (ok_callP (ref07_text_ok _ v_0.fStr _ e10) rfl rfl rfl rfl ⟨sr, trivial⟩ Try.call86 rfl ?_)
    refine ro rfl (ok_assign rfl rfl rfl rfl ?_)
    refine rn ?_
    refine awp_seq (awp_reg ?_)
    refine ro rfl (ok_move rfl rfl rfl rfl ?_)
    refine ro rfl (ok_cmp rfl rfl rfl rfl rfl rfl ?_)
    refine rn ?_
    refine wp_ifN rfl (fun c11 => ?_) (fun c11 => ?_)
    ·replace h0 := if_f c11 h0
     refine awp_seq (awp_reg ?_)
     refine ro rfl (ok_move rfl rfl rfl rfl ?_)
     refine ro rfl (ok_assign rfl rfl rfl rfl ?_)
     refine rn ?_
     refine awp_ret ?_
     (repeat (first | refine uw ?_ | refine uo rfl ?_))
     have e0 := oi h0
     subst e0
     refine reta_mk rfl ?_
     exact sr
    ·replace h0 := if_t c11 h0
     refine awp_skip (awp_seq (awp_seq (awp_reg ?_)))
     refine ro rfl (ok_assign rfl rfl rfl rfl ?_)
     refine rn ?_
     refine awp_block ?_
     obtain ⟨o44, h1, hL0, hR0⟩ := jn_cut h0
     refine awp_joinEx 0 (fun v45 : Unit => o44 = .inl v45) (fun v45 => ⟨[], []⟩) ?_ ?_
     ·rintro s' ⟨v45, hv, hle⟩
      have h0 := hL0 _ hv
      (repeat (first | refine uw ?_ | refine uo rfl ?_))
      refine awp_ghost hle ?_
      (repeat (first | refine uw ?_ | refine uo rfl ?_))
      refine awp_seq (awp_reg ?_)
      refine ro rfl (ok_assign rfl rfl rfl rfl ?_)
      refine rn ?_
      refine awp_ret ?_
      (repeat (first | refine uw ?_ | refine uo rfl ?_))
      have e0 := oi h0
      subst e0
      refine reta_mk rfl ?_
      exact sr
     ·skip
      refine awp_loopG (fun q46 => ⟨[(1, .ptr 1 0), (4, .p (eI q46))], [(1, [.p (eI v_0.fKind), .p (eI v_0.fNum), .p (eS v_0.fStr), .p (eL eTValue v_0.fItems), .p (eL eS v_0.fKeys)])]⟩) (fun m (q46 : Int) => ref07_node_l1 n v_0 m q46) (fun _ => rfl) 0 h1 (ghost_le (le_mk ⟨er rfl, er rfl, trivial⟩ ⟨⟨_, rfl, ⟨sr, sr, sr, sr, sr, trivial⟩⟩, trivial⟩)) ?_
      rintro m i25 h1
      replace h1 : ref07_node_l1 n v_0 (m + 1) i25 = some o44 := h1
      rw [ref07_node_l1] at h1
      refine awp_seq (awp_seq (awp_reg ?_))
      refine ro rfl (ok_move rfl rfl rfl rfl ?_)
      refine ro rfl (ok_fieldAddrP rfl rfl rfl rfl rfl rfl rfl rfl rfl ?_)
      refine ro rfl (ok_loadP1 rfl rfl rfl rfl rfl rfl rfl rfl ?_)
      refine ro rfl (op_lenL (f := eS) (l := v_0.fKeys) rfl rfl rfl rfl rfl rfl rfl ?_)
      refine ro rfl (ok_cmp rfl rfl rfl rfl rfl rfl ?_)
      refine rn ?_
      refine wp_ifD rfl (fun c26 => ?_) (fun c26 => ?_)
      ·replace h1 := if_t c26 h1
       refine awp_skip (awp_seq (awp_block (awp_seq (awp_seq (awp_reg ?_)))))
       refine ro rfl (ok_fieldAddrP rfl rfl rfl rfl rfl rfl rfl rfl rfl ?_)
       refine ro rfl (ok_loadP1 rfl rfl rfl rfl rfl rfl rfl rfl ?_)
       refine ro rfl (ok_move rfl rfl rfl rfl ?_)
       obtain ⟨h27, h1⟩ := ck_cut h1
       refine ro rfl (op_at (f := eS) (l := v_0.fKeys) (fun x => [eS x]) rfl rfl rfl rfl rfl rfl rfl rfl rfl h27 (fun _ => rfl) (fun _ => rfl) ?_)
       refine ro rfl (ok_loadR1 rfl rfl rfl rfl rfl rfl rfl ?_)
       obtain ⟨r28, e29, h1⟩ := bd_cut h1
       refine ro rfl (ok_callP (ref07_text_ok _ (lat v_0.fKeys i25) _ e29) rfl rfl rfl rfl ⟨sr, trivial⟩ Try.call86 rfl ?_)
       refine ro rfl (ok_assign rfl rfl rfl rfl ?_)
       refine rn ?_
       refine awp_seq (awp_reg ?_)
       refine ro rfl (ok_move rfl rfl rfl rfl ?_)
       refine ro rfl (ok_cmp rfl rfl rfl rfl rfl rfl ?_)
       refine rn ?_
       refine wp_ifN rfl (fun c30 => ?_) (fun c30 => ?_)
       ·replace h1 := if_f c30 h1
        refine awp_seq (awp_reg ?_)
        refine ro rfl (ok_move rfl rfl rfl rfl ?_)
        refine ro rfl (ok_assign rfl rfl rfl rfl ?_)
        refine rn ?_
        refine awp_ret ?_
        (repeat (first | refine uw ?_ | refine uo rfl ?_))
        have e1 := oi h1
        have e0 := hR0 _ e1.symm
        subst e0
        refine reta_mk rfl ?_
        exact sr
       ·replace h1 := if_t c30 h1
        refine awp_skip (awp_seq ?_)
        obtain ⟨o47, h2, h1⟩ := bd_cut h1
        refine awp_joinN ⟨[(1, .ptr 1 0), (4, .p (eI i25)), (55, .p (eB o47))], [(1, [.p (eI v_0.fKind), .p (eI v_0.fNum), .p (eS v_0.fStr), .p (eL eTValue v_0.fItems), .p (eL eS v_0.fKeys)])]⟩ ?_ ?_
        ·intro s' hle
         (repeat (first | refine uw ?_ | refine uo rfl ?_))
         refine awp_ghost hle ?_
         refine wp_if rfl (fun c36 => ?_) (fun c36 => ?_)
         ·replace h1 := if_t c36 h1
          refine awp_seq (awp_reg ?_)
          refine ro rfl (ok_assign rfl rfl rfl rfl ?_)
          refine rn ?_
          refine awp_ret ?_
          (repeat (first | refine uw ?_ | refine uo rfl ?_))
          have e1 := oi h1
          have e0 := hR0 _ e1.symm
          subst e0
          refine reta_mk rfl ?_
          exact sr
         ·replace h1 := if_bf c36 h1
          refine awp_skip ?_
          (repeat (first | refine uw ?_ | refine uo rfl ?_))
          refine awp_reg ?_
          refine ro rfl (ok_move rfl rfl rfl rfl ?_)
          obtain ⟨h37, h1⟩ := ck_cut h1
          refine ro rfl (ok_ar rfl rfl rfl rfl rfl rfl h37 ?_)
          refine ro rfl (ok_assign rfl rfl rfl rfl ?_)
          refine rn ?_
          (repeat (first | refine uw ?_ | refine uo rfl ?_))
          exact ⟨(i25 + 1), h1, ghost_le (le_mk ⟨er rfl, er rfl, trivial⟩ ⟨⟨_, rfl, ⟨sr, sr, sr, sr, sr, trivial⟩⟩, trivial⟩)⟩
        ·skip
         refine awp_byD (p := 0 < i25) (fun c31 => ?_) (fun c31 => ?_)
         ·replace h2 := if_t c31 h2
          obtain ⟨h32, h2⟩ := ck_cut h2
          obtain ⟨h33, h2⟩ := ck_cut h2
          obtain ⟨h34, h2⟩ := ck_cut h2
          refine awp_drawQ [(1, .ptr 1 0), (4, .p (eI i25))] rfl ⟨rfl, rfl, trivial⟩ rfl ?_
          refine dq_cons (.p (eI i25)) [(4, _)] ⟨.inl rfl, trivial⟩ (fun sl hsl K hK => one_op rfl (ok_move rfl rfl rfl (hsl _ _ rfl) hK)) rfl rfl rfl ?_
          refine dq_cons (.p (eB (decide (0 < i25)))) [(40, _)] ⟨.inr ⟨0, rfl, rfl⟩, trivial⟩ (fun sl hsl K hK => one_op rfl (ok_cmp rfl rfl rfl (hsl _ _ rfl) rfl rfl hK)) rfl rfl rfl ?_
          refine dq_cons (.p (eB (decide (0 < i25)))) [(41, _)] ⟨.inr ⟨1, rfl, rfl⟩, trivial⟩ (fun sl hsl K hK => one_op rfl (ok_move rfl rfl rfl (hsl _ _ rfl) hK)) rfl rfl rfl ?_
          refine dq_cons (.ptr 1 4) [(1, _), (42, _)] ⟨.inl rfl, .inr ⟨2, rfl, rfl⟩, trivial⟩ (fun sl hsl K hK => one_yes (ok_fieldAddrP rfl rfl rfl rfl rfl rfl rfl rfl (hsl _ _ rfl) hK) rfl rfl (hsl _ _ rfl) (dt c31)) rfl rfl rfl ?_
          refine dq_cons (.p (eL eS v_0.fKeys)) [(42, _), (43, _)] ⟨.inr ⟨2, rfl, rfl⟩, .inr ⟨3, rfl, rfl⟩, trivial⟩ (fun sl hsl K hK => one_yes (ok_loadP1 rfl rfl rfl rfl rfl (hsl _ _ rfl) rfl rfl hK) rfl rfl (hsl _ _ rfl) (dt c31)) rfl rfl rfl ?_
          refine dq_cons (.p (eI i25)) [(4, _), (42, _)] ⟨.inl rfl, .inr ⟨2, rfl, rfl⟩, trivial⟩ (fun sl hsl K hK => one_yes (ok_move rfl rfl rfl (hsl _ _ rfl) hK) rfl rfl (hsl _ _ rfl) (dt c31)) rfl rfl rfl ?_
          refine dq_cons (.p (eI (i25 - 1))) [(42, _), (45, _)] ⟨.inr ⟨2, rfl, rfl⟩, .inr ⟨5, rfl, rfl⟩, trivial⟩ (fun sl hsl K hK => one_yes (ok_ar rfl rfl rfl (hsl _ _ rfl) rfl rfl h32 hK) rfl rfl (hsl _ _ rfl) (dt c31)) rfl rfl rfl ?_
          refine dq_cons (.rptr [eS (lat v_0.fKeys (i25 - 1))]) [(42, _), (44, _), (46, _)] ⟨.inr ⟨2, rfl, rfl⟩, .inr ⟨4, rfl, rfl⟩, .inr ⟨6, rfl, rfl⟩, trivial⟩ (fun sl hsl K hK => one_yes (op_at (f := eS) (l := v_0.fKeys) (fun x => [eS x]) rfl rfl rfl rfl rfl rfl (hsl _ _ rfl) rfl (hsl _ _ rfl) h33 (fun _ => rfl) (fun _ => rfl) hK) rfl rfl (hsl _ _ rfl) (dt c31)) rfl rfl rfl ?_
          refine dq_cons (.p (eS (lat v_0.fKeys (i25 - 1)))) [(42, _), (47, _)] ⟨.inr ⟨2, rfl, rfl⟩, .inr ⟨7, rfl, rfl⟩, trivial⟩ (fun sl hsl K hK => one_yes (ok_loadR1 rfl rfl rfl rfl rfl (hsl _ _ rfl) rfl hK) rfl rfl (hsl _ _ rfl) (dt c31)) rfl rfl rfl ?_
          refine dq_cons (.ptr 1 4) [(1, _), (42, _)] ⟨.inl rfl, .inr ⟨2, rfl, rfl⟩, trivial⟩ (fun sl hsl K hK => one_yes (ok_fieldAddrP rfl rfl rfl rfl rfl rfl rfl rfl (hsl _ _ rfl) hK) rfl rfl (hsl _ _ rfl) (dt c31)) rfl rfl rfl ?_
          refine dq_cons (.p (eL eS v_0.fKeys)) [(42, _), (49, _)] ⟨.inr ⟨2, rfl, rfl⟩, .inr ⟨9, rfl, rfl⟩, trivial⟩ (fun sl hsl K hK => one_yes (ok_loadP1 rfl rfl rfl rfl rfl (hsl _ _ rfl) rfl rfl hK) rfl rfl (hsl _ _ rfl) (dt c31)) rfl rfl rfl ?_
          refine dq_cons (.p (eI i25)) [(4, _), (42, _)] ⟨.inl rfl, .inr ⟨2, rfl, rfl⟩, trivial⟩ (fun sl hsl K hK => one_yes (ok_move rfl rfl rfl (hsl _ _ rfl) hK) rfl rfl (hsl _ _ rfl) (dt c31)) rfl rfl rfl ?_
          refine dq_cons (.rptr [eS (lat v_0.fKeys i25)]) [(42, _), (50, _), (51, _)] ⟨.inr ⟨2, rfl, rfl⟩, .inr ⟨10, rfl, rfl⟩, .inr ⟨11, rfl, rfl⟩, trivial⟩ (fun sl hsl K hK => one_yes (op_at (f := eS) (l := v_0.fKeys) (fun x => [eS x]) rfl rfl rfl rfl rfl rfl (hsl _ _ rfl) rfl (hsl _ _ rfl) h34 (fun _ => rfl) (fun _ => rfl) hK) rfl rfl (hsl _ _ rfl) (dt c31)) rfl rfl rfl ?_
          refine dq_cons (.p (eS (lat v_0.fKeys i25))) [(42, _), (52, _)] ⟨.inr ⟨2, rfl, rfl⟩, .inr ⟨12, rfl, rfl⟩, trivial⟩ (fun sl hsl K hK => one_yes (ok_loadR1 rfl rfl rfl rfl rfl (hsl _ _ rfl) rfl hK) rfl rfl (hsl _ _ rfl) (dt c31)) rfl rfl rfl ?_
          refine dq_cons (.p (eB (!Op.bytesLess (lat v_0.fKeys (i25 - 1)) (lat v_0.fKeys i25)))) [(42, _), (48, _), (53, _)] ⟨.inr ⟨2, rfl, rfl⟩, .inr ⟨8, rfl, rfl⟩, .inr ⟨13, rfl, rfl⟩, trivial⟩ (fun sl hsl K hK => one_yes (ok_cmpS rfl rfl rfl (hsl _ _ rfl) (hsl _ _ rfl) rfl hK) rfl rfl (hsl _ _ rfl) (dt c31)) rfl rfl rfl ?_
          refine dq_cons (.p (eB (!Op.bytesLess (lat v_0.fKeys (i25 - 1)) (lat v_0.fKeys i25)))) [(42, _), (54, _)] ⟨.inr ⟨2, rfl, rfl⟩, .inr ⟨14, rfl, rfl⟩, trivial⟩ (fun sl hsl K hK => one_op rfl (ok_pick_true rfl rfl rfl (hsl _ _ rfl) (dt c31) (hsl _ _ rfl) hK)) rfl rfl rfl ?_
          refine dq_nil ?_
          (repeat (first | refine uw ?_ | refine uo rfl ?_))
          have e2 := oi h2
          subst e2
          exact ghost_le (le_mk ⟨er rfl, er rfl, er rfl, trivial⟩ ⟨⟨_, rfl, ⟨sr, sr, sr, sr, sr, trivial⟩⟩, trivial⟩)
         ·replace h2 := if_f c31 h2
          refine awp_drawQ [(1, .ptr 1 0), (4, .p (eI i25))] rfl ⟨rfl, rfl, trivial⟩ rfl ?_
          refine dq_cons (.p (eI i25)) [(4, _)] ⟨.inl rfl, trivial⟩ (fun sl hsl K hK => one_op rfl (ok_move rfl rfl rfl (hsl _ _ rfl) hK)) rfl rfl rfl ?_
          refine dq_cons (.p (eB (decide (0 < i25)))) [(40, _)] ⟨.inr ⟨0, rfl, rfl⟩, trivial⟩ (fun sl hsl K hK => one_op rfl (ok_cmp rfl rfl rfl (hsl _ _ rfl) rfl rfl hK)) rfl rfl rfl ?_
          refine dq_cons (.p (eB (decide (0 < i25)))) [(41, _)] ⟨.inr ⟨1, rfl, rfl⟩, trivial⟩ (fun sl hsl K hK => one_op rfl (ok_move rfl rfl rfl (hsl _ _ rfl) hK)) rfl rfl rfl ?_
          refine dq_cons (.p (.val Go.undef)) [(1, _), (42, _)] ⟨.inl rfl, .inr ⟨2, rfl, rfl⟩, trivial⟩ (fun sl hsl K hK => one_no rfl rfl (hsl _ _ rfl) (df c31) rfl rfl hK) rfl rfl rfl ?_
          refine dq_cons (.p (.val Go.undef)) [(42, _), (43, _)] ⟨.inr ⟨2, rfl, rfl⟩, .inr ⟨3, rfl, rfl⟩, trivial⟩ (fun sl hsl K hK => one_no rfl rfl (hsl _ _ rfl) (df c31) rfl rfl hK) rfl rfl rfl ?_
          refine dq_cons (.p (.val Go.undef)) [(4, _), (42, _)] ⟨.inl rfl, .inr ⟨2, rfl, rfl⟩, trivial⟩ (fun sl hsl K hK => one_no rfl rfl (hsl _ _ rfl) (df c31) rfl rfl hK) rfl rfl rfl ?_
          refine dq_cons (.p (.val Go.undef)) [(42, _), (45, _)] ⟨.inr ⟨2, rfl, rfl⟩, .inr ⟨5, rfl, rfl⟩, trivial⟩ (fun sl hsl K hK => one_no rfl rfl (hsl _ _ rfl) (df c31) rfl rfl hK) rfl rfl rfl ?_
          refine dq_cons (.p (.val Go.undef)) [(42, _), (44, _), (46, _)] ⟨.inr ⟨2, rfl, rfl⟩, .inr ⟨4, rfl, rfl⟩, .inr ⟨6, rfl, rfl⟩, trivial⟩ (fun sl hsl K hK => one_no rfl rfl (hsl _ _ rfl) (df c31) rfl rfl hK) rfl rfl rfl ?_
          refine dq_cons (.p (.val Go.undef)) [(42, _), (47, _)] ⟨.inr ⟨2, rfl, rfl⟩, .inr ⟨7, rfl, rfl⟩, trivial⟩ (fun sl hsl K hK => one_no rfl rfl (hsl _ _ rfl) (df c31) rfl rfl hK) rfl rfl rfl ?_
          refine dq_cons (.p (.val Go.undef)) [(1, _), (42, _)] ⟨.inl rfl, .inr ⟨2, rfl, rfl⟩, trivial⟩ (fun sl hsl K hK => one_no rfl rfl (hsl _ _ rfl) (df c31) rfl rfl hK) rfl rfl rfl ?_
          refine dq_cons (.p (.val Go.undef)) [(42, _), (49, _)] ⟨.inr ⟨2, rfl, rfl⟩, .inr ⟨9, rfl, rfl⟩, trivial⟩ (fun sl hsl K hK => one_no rfl rfl (hsl _ _ rfl) (df c31) rfl rfl hK) rfl rfl rfl ?_
          refine dq_cons (.p (.val Go.undef)) [(4, _), (42, _)] ⟨.inl rfl, .inr ⟨2, rfl, rfl⟩, trivial⟩ (fun sl hsl K hK => one_no rfl rfl (hsl _ _ rfl) (df c31) rfl rfl hK) rfl rfl rfl ?_
          refine dq_cons (.p (.val Go.undef)) [(42, _), (50, _), (51, _)] ⟨.inr ⟨2, rfl, rfl⟩, .inr ⟨10, rfl, rfl⟩, .inr ⟨11, rfl, rfl⟩, trivial⟩ (fun sl hsl K hK => one_no rfl rfl (hsl _ _ rfl) (df c31) rfl rfl hK) rfl rfl rfl ?_
          refine dq_cons (.p (.val Go.undef)) [(42, _), (52, _)] ⟨.inr ⟨2, rfl, rfl⟩, .inr ⟨12, rfl, rfl⟩, trivial⟩ (fun sl hsl K hK => one_no rfl rfl (hsl _ _ rfl) (df c31) rfl rfl hK) rfl rfl rfl ?_
          refine dq_cons (.p (.val Go.undef)) [(42, _), (48, _), (53, _)] ⟨.inr ⟨2, rfl, rfl⟩, .inr ⟨8, rfl, rfl⟩, .inr ⟨13, rfl, rfl⟩, trivial⟩ (fun sl hsl K hK => one_no rfl rfl (hsl _ _ rfl) (df c31) rfl rfl hK) rfl rfl rfl ?_
          refine dq_cons (.p (eB false)) [(42, _), (54, _)] ⟨.inr ⟨2, rfl, rfl⟩, .inr ⟨14, rfl, rfl⟩, trivial⟩ (fun sl hsl K hK => one_op rfl (ok_pick_false rfl rfl rfl (hsl _ _ rfl) (df c31) rfl hK)) rfl rfl rfl ?_
          refine dq_nil ?_
          (repeat (first | refine uw ?_ | refine uo rfl ?_))
          have e2 := oi h2
          subst e2
          exact ghost_le (le_mk ⟨er rfl, er rfl, er rfl, trivial⟩ ⟨⟨_, rfl, ⟨sr, sr, sr, sr, sr, trivial⟩⟩, trivial⟩)
      ·replace h1 := if_f c26 h1
       refine awp_exit ?_
       (repeat (first | refine uw ?_ | refine uo rfl ?_))
       have e1 := oi h1
       exact ⟨_, e1.symm, ghost_le (le_mk trivial trivial)⟩
  ·skip
   refine awp_reg ?_
   refine ro rfl (ok_fieldAddrP rfl rfl rfl rfl rfl rfl rfl rfl rfl ?_)
   refine ro rfl (ok_loadP1 rfl rfl rfl rfl rfl rfl rfl rfl ?_)
   refine ro rfl (ok_cmp rfl rfl rfl rfl rfl rfl ?_)
   refine ro rfl (ok_move rfl rfl rfl rfl ?_)
   refine gd_D rfl rfl rfl (fun c4 => ?_) (fun c4 => ?_)
   ·replace h1 := if_t c4 h1
    refine gd_tt rfl rfl rfl (dt c4) (ok_fieldAddrP rfl rfl rfl rfl rfl rfl rfl rfl rfl ?_)
    refine gd_tt rfl rfl rfl (dt c4) (ok_loadP1 rfl rfl rfl rfl rfl rfl rfl rfl ?_)
    obtain ⟨r5, e6, h1⟩ := bd_cut h1
    refine gd_tt rfl rfl rfl (dt c4) (ok_callP (ref01_Valid_ok v_0.fNum _ e6) rfl rfl rfl rfl ⟨sr, trivial⟩ Try.call85 rfl ?_)
    refine gd_tt rfl rfl rfl (dt c4) (ok_not rfl rfl rfl rfl ?_)
    refine ro rfl (ok_pick_true rfl rfl rfl rfl (dt c4) rfl ?_)
    refine rn ?_
    (repeat (first | refine uw ?_ | refine uo rfl ?_))
    have e1 := oi h1
    subst e1
    exact ghost_le (le_mk ⟨er rfl, er rfl, trivial⟩ ⟨⟨_, rfl, ⟨sr, sr, sr, sr, sr, trivial⟩⟩, trivial⟩)
   ·replace h1 := if_f c4 h1
    refine gd_tf rfl rfl rfl (df c4) rfl rfl ?_
    refine gd_tf rfl rfl rfl (df c4) rfl rfl ?_
    refine gd_tf rfl rfl rfl (df c4) rfl rfl ?_
    refine gd_tf rfl rfl rfl (df c4) rfl rfl ?_
    refine ro rfl (ok_pick_false rfl rfl rfl rfl (df c4) rfl ?_)
    refine rn ?_
    (repeat (first | refine uw ?_ | refine uo rfl ?_))
    have e1 := oi h1
    subst e1
    exact ghost_le (le_mk ⟨er rfl, er rfl, trivial⟩ ⟨⟨_, rfl, ⟨sr, sr, sr, sr, sr, trivial⟩⟩, trivial⟩)

def ref07_check_l1 (r_ref07_check : TValue → Int → Int → Option (Int × Int)) (v_0 : TValue) (level_1 : Int) : Nat → Int → Int → Option (Int ⊕ (Int × Int))
 | 0, _, _ => none
 | m + 1, n16, i17 =>
 if i17 < (v_0.fItems.length : Int) then
  ck ((0 : Int) ≤ i17 ∧ i17 < (v_0.fItems.length : Int)) <|
  ck (inR (level_1 + 1)) <|
  (r_ref07_check (lat v_0.fItems i17) (level_1 + 1) n16).bind fun r21 =>
  if r21.1 = 0 then
   ck (inR (i17 + 1)) <|
   ref07_check_l1 r_ref07_check v_0 level_1 m r21.2 (i17 + 1)
  else
   some (.inr (r21.1, r21.2))
 else
  some (.inl n16)

def ref07_check : Nat → TValue → Int → Int → Option (Int × Int)
 | 0, _, _, _ => none
 | n + 1, v_0, level_1, before_2 =>
 if 32 < level_1 then
  some (4, before_2)
 else
  if 4096 ≤ before_2 then
   some (14, before_2)
  else
   (ref07_node n v_0).bind fun r3 =>
   if r3 = 0 then
    ck (inR (before_2 + 1)) <|
    jn (ref07_check_l1 (ref07_check n) v_0 level_1 n (before_2 + 1) 0) fun n27 =>
    some (0, n27)
   else
    some (r3, before_2)

set_option maxHeartbeats 4000000 in
theorem ref07_check_ok (n : Nat) : ∀ (v_0 : TValue) (level_1 : Int) (before_2 : Int) (r : Int × Int), ref07_check n v_0 level_1 before_2 = some r → PCalls Try.prog 80 [.agg (TValue.cs v_0), eI level_1, eI before_2] (· = .tuple [.p (eI r.1), .p (eI r.2)]) := by
 induction n with
 | zero => intro v_0 level_1 before_2 r h0; cases h0
 | succ n ih =>
 have ih_ref07_check_ok := ih
 intro v_0 level_1 before_2 r h0
 rw [ref07_check] at h0
 refine pbodyA good Try.func80 rfl rfl rfl fun w0 => ?_
 refine awp_seq (awp_reg ?_)
 refine ro rfl (ok_box rfl rfl rfl rfl rfl ?_)
 refine ro rfl (ok_assign rfl rfl rfl rfl ?_)
 refine ro rfl (ok_assign rfl rfl rfl rfl ?_)
 refine rn ?_
 refine awp_seq (awp_seq (awp_reg ?_))
 refine ro rfl (ok_move rfl rfl rfl rfl ?_)
 refine ro rfl (ok_cmp rfl rfl rfl rfl rfl rfl ?_)
 refine rn ?_
 refine wp_ifD rfl (fun c1 => ?_) (fun c1 => ?_)
 ·replace h0 := if_t c1 h0
  refine awp_seq (awp_reg ?_)
  refine ro rfl (ok_move rfl rfl rfl rfl ?_)
  refine ro rfl (ok_assign rfl rfl rfl rfl ?_)
  refine ro rfl (ok_assign rfl rfl rfl rfl ?_)
  refine rn ?_
  refine awp_ret ?_
  (repeat (first | refine uw ?_ | refine uo rfl ?_))
  have e0 := oi h0
  subst e0
  refine reta_mk rfl ?_
  exact sub_tuple ⟨sr, sr, trivial⟩
 ·replace h0 := if_f c1 h0
  refine awp_skip (awp_seq (awp_seq (awp_reg ?_)))
  refine ro rfl (ok_move rfl rfl rfl rfl ?_)
  refine ro rfl (ok_cmp rfl rfl rfl rfl rfl rfl ?_)
  refine rn ?_
  refine wp_ifD rfl (fun c2 => ?_) (fun c2 => ?_)
  ·replace h0 := if_t c2 h0
   refine awp_seq (awp_reg ?_)
   refine ro rfl (ok_move rfl rfl rfl rfl ?_)
   refine ro rfl (ok_assign rfl rfl rfl rfl ?_)
   refine ro rfl (ok_assign rfl rfl rfl rfl ?_)
   refine rn ?_
   refine awp_ret ?_
   (repeat (first | refine uw ?_ | refine uo rfl ?_))
   have e0 := oi h0
   subst e0
   refine reta_mk rfl ?_
   exact sub_tuple ⟨sr, sr, trivial⟩
  ·replace h0 := if_f c2 h0
   refine awp_skip (awp_seq (awp_seq (awp_reg ?_)))
   refine ro rfl (ok_loadPA rfl rfl rfl rfl rfl rfl rfl rfl rfl ?_)
   obtain ⟨r3, e4, h0⟩ := bd_cut h0
   refine ro rfl (ok_callP (ref07_node_ok _ v_0 _ e4) rfl rfl rfl rfl ⟨sr, trivial⟩ Try.call83 rfl ?_)
   refine ro rfl (ok_assign rfl rfl rfl rfl ?_)
   refine rn ?_
   refine awp_seq (awp_reg ?_)
   refine ro rfl (ok_move rfl rfl rfl rfl ?_)
   refine ro rfl (ok_cmp rfl rfl rfl rfl rfl rfl ?_)
   refine rn ?_
   refine wp_ifN rfl (fun c5 => ?_) (fun c5 => ?_)
   ·replace h0 := if_f c5 h0
    refine awp_seq (awp_reg ?_)
    refine ro rfl (ok_move rfl rfl rfl rfl ?_)
    refine ro rfl (ok_move rfl rfl rfl rfl ?_)
    refine ro rfl (ok_assign rfl rfl rfl rfl ?_)
    refine ro rfl (ok_assign rfl rfl rfl rfl ?_)
    refine rn ?_
    refine awp_ret ?_
    (repeat (first | refine uw ?_ | refine uo rfl ?_))
    have e0 := oi h0
    subst e0
    refine reta_mk rfl ?_
    exact sub_tuple ⟨sr, sr, trivial⟩
   ·replace h0 := if_t c5 h0
    refine awp_skip (awp_seq (awp_reg ?_))
    refine ro rfl (ok_move rfl rfl rfl rfl ?_)
    obtain ⟨h6, h0⟩ := ck_cut h0
    refine ro rfl (ok_ar rfl rfl rfl rfl rfl rfl h6 ?_)
    refine ro rfl (ok_assign rfl rfl rfl rfl ?_)
    refine rn ?_
    refine awp_seq (awp_seq (awp_reg ?_))
    refine ro rfl (ok_assign rfl rfl rfl rfl ?_)
    refine rn ?_
    refine awp_block ?_
    obtain ⟨o29, h1, hL0, hR0⟩ := jn_cut h0
    refine awp_joinEx 0 (fun v30 : Int => o29 = .inl v30) (fun v30 => ⟨[(9, .p (eI v30))], []⟩) ?_ ?_
    ·rintro s' ⟨v30, hv, hle⟩
     have h0 := hL0 _ hv
     (repeat (first | refine uw ?_ | refine uo rfl ?_))
     refine awp_ghost hle ?_
     (repeat (first | refine uw ?_ | refine uo rfl ?_))
     refine awp_seq (awp_reg ?_)
     refine ro rfl (ok_move rfl rfl rfl rfl ?_)
     refine ro rfl (ok_assign rfl rfl rfl rfl ?_)
     refine ro rfl (ok_assign rfl rfl rfl rfl ?_)
     refine rn ?_
     refine awp_ret ?_
     (repeat (first | refine uw ?_ | refine uo rfl ?_))
     have e0 := oi h0
     subst e0
     refine reta_mk rfl ?_
     exact sub_tuple ⟨sr, sr, trivial⟩
    ·skip
     refine awp_loopG (fun q31 => ⟨[(1, .p (eI level_1)), (3, .ptr 3 0), (9, .p (eI q31.1)), (10, .p (eI q31.2))], [(3, [.p (eI v_0.fKind), .p (eI v_0.fNum), .p (eS v_0.fStr), .p (eL eTValue v_0.fItems), .p (eL eS v_0.fKeys)])]⟩) (fun m (q31 : Int × Int) => ref07_check_l1 (ref07_check n) v_0 level_1 m q31.1 q31.2) (fun _ => rfl) (before_2 + 1, 0) h1 (ghost_le (le_mk ⟨er rfl, er rfl, er rfl, er rfl, trivial⟩ ⟨⟨_, rfl, ⟨sr, sr, sr, sr, sr, trivial⟩⟩, trivial⟩)) ?_
     rintro m ⟨n16, i17⟩ h1
     replace h1 : ref07_check_l1 (ref07_check n) v_0 level_1 (m + 1) n16 i17 = some o29 := h1
     rw [ref07_check_l1] at h1
     refine awp_seq (awp_seq (awp_reg ?_))
     refine ro rfl (ok_move rfl rfl rfl rfl ?_)
     refine ro rfl (ok_fieldAddrP rfl rfl rfl rfl rfl rfl rfl rfl rfl ?_)
     refine ro rfl (ok_loadP1 rfl rfl rfl rfl rfl rfl rfl rfl ?_)
     refine ro rfl (op_lenL (f := eTValue) (l := v_0.fItems) rfl rfl rfl rfl rfl rfl rfl ?_)
     refine ro rfl (ok_cmp rfl rfl rfl rfl rfl rfl ?_)
     refine rn ?_
     refine wp_ifD rfl (fun c18 => ?_) (fun c18 => ?_)
     ·replace h1 := if_t c18 h1
      refine awp_skip (awp_seq (awp_block (awp_seq (awp_reg ?_))))
      refine ro rfl (ok_fieldAddrP rfl rfl rfl rfl rfl rfl rfl rfl rfl ?_)
      refine ro rfl (ok_loadP1 rfl rfl rfl rfl rfl rfl rfl rfl ?_)
      refine ro rfl (ok_move rfl rfl rfl rfl ?_)
      obtain ⟨h19, h1⟩ := ck_cut h1
      refine ro rfl (op_at (f := eTValue) (l := v_0.fItems) TValue.cs rfl rfl rfl rfl rfl rfl rfl rfl rfl h19 TValue.cells_eq (fun _ => rfl) ?_)
      refine ro rfl (ok_loadRA rfl rfl rfl rfl rfl rfl rfl ?_)
      refine ro rfl (ok_move rfl rfl rfl rfl ?_)
      obtain ⟨h20, h1⟩ := ck_cut h1
      refine ro rfl (ok_ar rfl rfl rfl rfl rfl rfl h20 ?_)
      refine ro rfl (ok_move rfl rfl rfl rfl ?_)
      obtain ⟨r21, e22, h1⟩ := bd_cut h1
      refine ro rfl (ok_callP (ih_ref07_check_ok (lat v_0.fItems i17) (level_1 + 1) n16 _ e22) rfl rfl rfl rfl ⟨sr, sr, sr, trivial⟩ Try.call80 rfl ?_)
      refine ro rfl (ok_move rfl rfl rfl rfl ?_)
      refine ro rfl (ok_extract rfl rfl rfl rfl rfl ?_)
      refine ro rfl (ok_extract rfl rfl rfl rfl rfl ?_)
      refine ro rfl (ok_assign rfl rfl rfl rfl ?_)
      refine ro rfl (ok_assign rfl rfl rfl rfl ?_)
      refine rn ?_
      refine awp_seq (awp_seq (awp_reg ?_))
      refine ro rfl (ok_move rfl rfl rfl rfl ?_)
      refine ro rfl (ok_cmp rfl rfl rfl rfl rfl rfl ?_)
      refine rn ?_
      refine wp_ifN rfl (fun c23 => ?_) (fun c23 => ?_)
      ·replace h1 := if_f c23 h1
       refine awp_seq (awp_reg ?_)
       refine ro rfl (ok_move rfl rfl rfl rfl ?_)
       refine ro rfl (ok_move rfl rfl rfl rfl ?_)
       refine ro rfl (ok_assign rfl rfl rfl rfl ?_)
       refine ro rfl (ok_assign rfl rfl rfl rfl ?_)
       refine rn ?_
       refine awp_ghost (ghost_le (t := ⟨[(6, .p (eI r21.1)), (7, .p (eI r21.2))], []⟩) (le_mk ⟨er rfl, er rfl, trivial⟩ trivial)) ?_
       refine awp_ret ?_
       (repeat (first | refine uw ?_ | refine uo rfl ?_))
       have e1 := oi h1
       have e0 := hR0 _ e1.symm
       subst e0
       refine reta_mk rfl ?_
       exact sub_tuple ⟨sr, sr, trivial⟩
      ·replace h1 := if_t c23 h1
       refine awp_skip (awp_reg ?_)
       refine ro rfl (ok_move rfl rfl rfl rfl ?_)
       refine ro rfl (ok_assign rfl rfl rfl rfl ?_)
       refine rn ?_
       (repeat (first | refine uw ?_ | refine uo rfl ?_))
       refine awp_reg ?_
       refine ro rfl (ok_move rfl rfl rfl rfl ?_)
       obtain ⟨h24, h1⟩ := ck_cut h1
       refine ro rfl (ok_ar rfl rfl rfl rfl rfl rfl h24 ?_)
       refine ro rfl (ok_assign rfl rfl rfl rfl ?_)
       refine rn ?_
       (repeat (first | refine uw ?_ | refine uo rfl ?_))
       exact ⟨(r21.2, i17 + 1), h1, ghost_le (le_mk ⟨er rfl, er rfl, er rfl, er rfl, trivial⟩ ⟨⟨_, rfl, ⟨sr, sr, sr, sr, sr, trivial⟩⟩, trivial⟩)⟩
     ·replace h1 := if_f c18 h1
      refine awp_exit ?_
      (repeat (first | refine uw ?_ | refine uo rfl ?_))
      have e1 := oi h1
      exact ⟨_, e1.symm, ghost_le (le_mk ⟨er rfl, trivial⟩ trivial)⟩

def ref07_Check (n : Nat) (v_0 : TValue) : Option Int :=
 (ref07_check n v_0 1 0).bind fun r1 =>
 some r1.1

set_option maxHeartbeats 4000000 in
theorem ref07_Check_ok (n : Nat) (v_0 : TValue) (r : Int) (h0 : ref07_Check n v_0 = some r) : PCalls Try.prog 67 [.agg (TValue.cs v_0)] (· = .p (eI r)) := by
 unfold ref07_Check at h0
 refine pbodyA good Try.func67 rfl rfl rfl fun w0 => ?_
 refine awp_seq (awp_reg ?_)
 refine ro rfl (ok_box rfl rfl rfl rfl rfl ?_)
 refine ro rfl (ok_assign rfl rfl rfl rfl ?_)
 refine rn ?_
 refine awp_seq (awp_reg ?_)
 refine ro rfl (ok_loadPA rfl rfl rfl rfl rfl rfl rfl rfl rfl ?_)
 obtain ⟨r1, e2, h0⟩ := bd_cut h0
 refine ro rfl (ok_callP (ref07_check_ok _ v_0 1 0 _ e2) rfl rfl rfl rfl ⟨sr, sr, sr, trivial⟩ Try.call80 rfl ?_)
 refine ro rfl (ok_move rfl rfl rfl rfl ?_)
 refine ro rfl (ok_extract rfl rfl rfl rfl rfl ?_)
 refine ro rfl (ok_extract rfl rfl rfl rfl rfl ?_)
 refine ro rfl (ok_assign rfl rfl rfl rfl ?_)
 refine ro rfl (ok_assign rfl rfl rfl rfl ?_)
 refine rn ?_
 refine awp_seq (awp_reg ?_)
 refine ro rfl (ok_move rfl rfl rfl rfl ?_)
 refine ro rfl (ok_assign rfl rfl rfl rfl ?_)
 refine rn ?_
 refine awp_ret ?_
 (repeat (first | refine uw ?_ | refine uo rfl ?_))
 have e0 := oi h0
 subst e0
 refine reta_mk rfl ?_
 exact sr

def ref14_Reserved (s_0 : Bytes) : Option Bool :=
 (
   if s_0 = ([110, 117, 108, 108] : Bytes) then
    some true
   else
    if s_0 = ([116, 114, 117, 101] : Bytes) then
     some true
    else
     if s_0 = ([102, 97, 108, 115, 101] : Bytes) then
      some true
     else
      if s_0 = ([102, 111, 114] : Bytes) then
       some true
      else
       if s_0 = ([105, 110] : Bytes) then
        some true
       else
        some (decide (s_0 = ([105, 102] : Bytes)))
  : Option Bool).bind fun t6 =>
 some t6

set_option maxHeartbeats 4000000 in
theorem ref14_Reserved_ok (s_0 : Bytes) (r : Bool) (h0 : ref14_Reserved s_0 = some r) : PCalls Try.prog 69 [eS s_0] (· = .p (eB r)) := by
 unfold ref14_Reserved at h0
 refine pbodyA good Try.func69 rfl rfl rfl fun w0 => ?_
 refine awp_seq (awp_reg ?_)
 refine ro rfl (ok_assign rfl rfl rfl rfl ?_)
 refine rn ?_
 refine awp_seq ?_
 obtain ⟨o8, h1, h0⟩ := bd_cut h0
 refine awp_joinN ⟨[(2, .p (eB o8))], []⟩ ?_ ?_
 ·intro s' hle
  (repeat (first | refine uw ?_ | refine uo rfl ?_))
  refine awp_ghost hle ?_
  refine awp_ret ?_
  (repeat (first | refine uw ?_ | refine uo rfl ?_))
  have e0 := oi h0
  subst e0
  refine reta_mk rfl ?_
  exact sr
 ·skip
  refine awp_reg ?_
  refine ro rfl (ok_move rfl rfl rfl rfl ?_)
  refine ro rfl (ok_cmpS rfl rfl rfl rfl rfl rfl ?_)
  refine ro rfl (ok_move rfl rfl rfl rfl ?_)
  refine gd_D rfl rfl rfl (fun c1 => ?_) (fun c1 => ?_)
  ·replace h1 := if_t c1 h1
   refine gd_ft rfl rfl rfl (dt c1) rfl rfl ?_
   refine gd_ft rfl rfl rfl (dt c1) rfl rfl ?_
   refine ro rfl (ok_pick_true rfl rfl rfl rfl (dt c1) rfl ?_)
   refine ro rfl (ok_move rfl rfl rfl rfl ?_)
   refine gd_ft rfl rfl rfl (rfl) rfl rfl ?_
   refine gd_ft rfl rfl rfl (rfl) rfl rfl ?_
   refine ro rfl (ok_pick_true rfl rfl rfl rfl (rfl) rfl ?_)
   refine ro rfl (ok_move rfl rfl rfl rfl ?_)
   refine gd_ft rfl rfl rfl (rfl) rfl rfl ?_
   refine gd_ft rfl rfl rfl (rfl) rfl rfl ?_
   refine ro rfl (ok_pick_true rfl rfl rfl rfl (rfl) rfl ?_)
   refine ro rfl (ok_move rfl rfl rfl rfl ?_)
   refine gd_ft rfl rfl rfl (rfl) rfl rfl ?_
   refine gd_ft rfl rfl rfl (rfl) rfl rfl ?_
   refine ro rfl (ok_pick_true rfl rfl rfl rfl (rfl) rfl ?_)
   refine ro rfl (ok_move rfl rfl rfl rfl ?_)
   refine gd_ft rfl rfl rfl (rfl) rfl rfl ?_
   refine gd_ft rfl rfl rfl (rfl) rfl rfl ?_
   refine ro rfl (ok_pick_true rfl rfl rfl rfl (rfl) rfl ?_)
   refine ro rfl (ok_assign rfl rfl rfl rfl ?_)
   refine rn ?_
   (repeat (first | refine uw ?_ | refine uo rfl ?_))
   have e1 := oi h1
   subst e1
   exact ghost_le (le_mk ⟨er rfl, trivial⟩ trivial)
  ·replace h1 := if_f c1 h1
   refine gd_ff rfl rfl rfl (df c1) (ok_move rfl rfl rfl rfl ?_)
   refine gd_ff rfl rfl rfl (df c1) (ok_cmpS rfl rfl rfl rfl rfl rfl ?_)
   refine ro rfl (ok_pick_false rfl rfl rfl rfl (df c1) rfl ?_)
   refine ro rfl (ok_move rfl rfl rfl rfl ?_)
   refine gd_D rfl rfl rfl (fun c2 => ?_) (fun c2 => ?_)
   ·replace h1 := if_t c2 h1
    refine gd_ft rfl rfl rfl (dt c2) rfl rfl ?_
    refine gd_ft rfl rfl rfl (dt c2) rfl rfl ?_
    refine ro rfl (ok_pick_true rfl rfl rfl rfl (dt c2) rfl ?_)
    refine ro rfl (ok_move rfl rfl rfl rfl ?_)
    refine gd_ft rfl rfl rfl (rfl) rfl rfl ?_
    refine gd_ft rfl rfl rfl (rfl) rfl rfl ?_
    refine ro rfl (ok_pick_true rfl rfl rfl rfl (rfl) rfl ?_)
    refine ro rfl (ok_move rfl rfl rfl rfl ?_)
    refine gd_ft rfl rfl rfl (rfl) rfl rfl ?_
    refine gd_ft rfl rfl rfl (rfl) rfl rfl ?_
    refine ro rfl (ok_pick_true rfl rfl rfl rfl (rfl) rfl ?_)
    refine ro rfl (ok_move rfl rfl rfl rfl ?_)
    refine gd_ft rfl rfl rfl (rfl) rfl rfl ?_
    refine gd_ft rfl rfl rfl (rfl) rfl rfl ?_
    refine ro rfl (ok_pick_true rfl rfl rfl rfl (rfl) rfl ?_)
    refine ro rfl (ok_assign rfl rfl rfl rfl ?_)
    refine rn ?_
    (repeat (first | refine uw ?_ | refine uo rfl ?_))
    have e1 := oi h1
    subst e1
    exact ghost_le (le_mk ⟨er rfl, trivial⟩ trivial)
   ·replace h1 := if_f c2 h1
    refine gd_ff rfl rfl rfl (df c2) (ok_move rfl rfl rfl rfl ?_)
    refine gd_ff rfl rfl rfl (df c2) (ok_cmpS rfl rfl rfl rfl rfl rfl ?_)
    refine ro rfl (ok_pick_false rfl rfl rfl rfl (df c2) rfl ?_)
    refine ro rfl (ok_move rfl rfl rfl rfl ?_)
    refine gd_D rfl rfl rfl (fun c3 => ?_) (fun c3 => ?_)
    ·replace h1 := if_t c3 h1
     refine gd_ft rfl rfl rfl (dt c3) rfl rfl ?_
     refine gd_ft rfl rfl rfl (dt c3) rfl rfl ?_
     refine ro rfl (ok_pick_true rfl rfl rfl rfl (dt c3) rfl ?_)
     refine ro rfl (ok_move rfl rfl rfl rfl ?_)
     refine gd_ft rfl rfl rfl (rfl) rfl rfl ?_
     refine gd_ft rfl rfl rfl (rfl) rfl rfl ?_
     refine ro rfl (ok_pick_true rfl rfl rfl rfl (rfl) rfl ?_)
     refine ro rfl (ok_move rfl rfl rfl rfl ?_)
     refine gd_ft rfl rfl rfl (rfl) rfl rfl ?_
     refine gd_ft rfl rfl rfl (rfl) rfl rfl ?_
     refine ro rfl (ok_pick_true rfl rfl rfl rfl (rfl) rfl ?_)
     refine ro rfl (ok_assign rfl rfl rfl rfl ?_)
     refine rn ?_
     (repeat (first | refine uw ?_ | refine uo rfl ?_))
     have e1 := oi h1
     subst e1
     exact ghost_le (le_mk ⟨er rfl, trivial⟩ trivial)
    ·replace h1 := if_f c3 h1
     refine gd_ff rfl rfl rfl (df c3) (ok_move rfl rfl rfl rfl ?_)
     refine gd_ff rfl rfl rfl (df c3) (ok_cmpS rfl rfl rfl rfl rfl rfl ?_)
     refine ro rfl (ok_pick_false rfl rfl rfl rfl (df c3) rfl ?_)
     refine ro rfl (ok_move rfl rfl rfl rfl ?_)
     refine gd_D rfl rfl rfl (fun c4 => ?_) (fun c4 => ?_)
     ·replace h1 := if_t c4 h1
      refine gd_ft rfl rfl rfl (dt c4) rfl rfl ?_
      refine gd_ft rfl rfl rfl (dt c4) rfl rfl ?_
      refine ro rfl (ok_pick_true rfl rfl rfl rfl (dt c4) rfl ?_)
      refine ro rfl (ok_move rfl rfl rfl rfl ?_)
      refine gd_ft rfl rfl rfl (rfl) rfl rfl ?_
      refine gd_ft rfl rfl rfl (rfl) rfl rfl ?_
      refine ro rfl (ok_pick_true rfl rfl rfl rfl (rfl) rfl ?_)
      refine ro rfl (ok_assign rfl rfl rfl rfl ?_)
      refine rn ?_
      (repeat (first | refine uw ?_ | refine uo rfl ?_))
      have e1 := oi h1
      subst e1
      exact ghost_le (le_mk ⟨er rfl, trivial⟩ trivial)
     ·replace h1 := if_f c4 h1
      refine gd_ff rfl rfl rfl (df c4) (ok_move rfl rfl rfl rfl ?_)
      refine gd_ff rfl rfl rfl (df c4) (ok_cmpS rfl rfl rfl rfl rfl rfl ?_)
      refine ro rfl (ok_pick_false rfl rfl rfl rfl (df c4) rfl ?_)
      refine ro rfl (ok_move rfl rfl rfl rfl ?_)
      refine gd_D rfl rfl rfl (fun c5 => ?_) (fun c5 => ?_)
      ·replace h1 := if_t c5 h1
       refine gd_ft rfl rfl rfl (dt c5) rfl rfl ?_
       refine gd_ft rfl rfl rfl (dt c5) rfl rfl ?_
       refine ro rfl (ok_pick_true rfl rfl rfl rfl (dt c5) rfl ?_)
       refine ro rfl (ok_assign rfl rfl rfl rfl ?_)
       refine rn ?_
       (repeat (first | refine uw ?_ | refine uo rfl ?_))
       have e1 := oi h1
       subst e1
       exact ghost_le (le_mk ⟨er rfl, trivial⟩ trivial)
      ·replace h1 := if_f c5 h1
       refine gd_ff rfl rfl rfl (df c5) (ok_move rfl rfl rfl rfl ?_)
       refine gd_ff rfl rfl rfl (df c5) (ok_cmpS rfl rfl rfl rfl rfl rfl ?_)
       refine ro rfl (ok_pick_false rfl rfl rfl rfl (df c5) rfl ?_)
       refine ro rfl (ok_assign rfl rfl rfl rfl ?_)
       refine rn ?_
       (repeat (first | refine uw ?_ | refine uo rfl ?_))
       have e1 := oi h1
       subst e1
       exact ghost_le (le_mk ⟨er rfl, trivial⟩ trivial)

def ref14_Name (n : Nat) (s_0 : Bytes) : Option Bool :=
 (
   (ref06_Identifier n s_0).bind fun r1 =>
   if r1 = true then
    (ref14_Reserved s_0).bind fun r4 =>
    some (!r4)
   else
    some false
  : Option Bool).bind fun t6 =>
 some t6

set_option maxHeartbeats 4000000 in
theorem ref14_Name_ok (n : Nat) (s_0 : Bytes) (r : Bool) (h0 : ref14_Name n s_0 = some r) : PCalls Try.prog 70 [eS s_0] (· = .p (eB r)) := by
 unfold ref14_Name at h0
 refine pbodyA good Try.func70 rfl rfl rfl fun w0 => ?_
 refine awp_seq (awp_reg ?_)
 refine ro rfl (ok_assign rfl rfl rfl rfl ?_)
 refine rn ?_
 refine awp_seq ?_
 obtain ⟨o8, h1, h0⟩ := bd_cut h0
 refine awp_joinN ⟨[(2, .p (eB o8))], []⟩ ?_ ?_
 ·intro s' hle
  (repeat (first | refine uw ?_ | refine uo rfl ?_))
  refine awp_ghost hle ?_
  refine awp_ret ?_
  (repeat (first | refine uw ?_ | refine uo rfl ?_))
  have e0 := oi h0
  subst e0
  refine reta_mk rfl ?_
  exact sr
 ·skip
  refine awp_reg ?_
  refine ro rfl (ok_move rfl rfl rfl rfl ?_)
  obtain ⟨r1, e2, h1⟩ := bd_cut h1
  refine ro rfl (ok_callP (ref06_Identifier_ok _ s_0 _ e2) rfl rfl rfl rfl ⟨sr, trivial⟩ Try.call59 rfl ?_)
  refine ro rfl (ok_move rfl rfl rfl rfl ?_)
  refine gd_B rfl rfl rfl (fun c3 => ?_) (fun c3 => ?_)
  ·replace h1 := if_t c3 h1
   refine gd_tt rfl rfl rfl (c3) (ok_move rfl rfl rfl rfl ?_)
   obtain ⟨r4, e5, h1⟩ := bd_cut h1
   refine gd_tt rfl rfl rfl (c3) (ok_callP (ref14_Reserved_ok s_0 _ e5) rfl rfl rfl rfl ⟨sr, trivial⟩ Try.call69 rfl ?_)
   refine gd_tt rfl rfl rfl (c3) (ok_not rfl rfl rfl rfl ?_)
   refine ro rfl (ok_pick_true rfl rfl rfl rfl (c3) rfl ?_)
   refine ro rfl (ok_assign rfl rfl rfl rfl ?_)
   refine rn ?_
   (repeat (first | refine uw ?_ | refine uo rfl ?_))
   have e1 := oi h1
   subst e1
   exact ghost_le (le_mk ⟨er rfl, trivial⟩ trivial)
  ·replace h1 := if_bf c3 h1
   refine gd_tf rfl rfl rfl (c3) rfl rfl ?_
   refine gd_tf rfl rfl rfl (c3) rfl rfl ?_
   refine gd_tf rfl rfl rfl (c3) rfl rfl ?_
   refine ro rfl (ok_pick_false rfl rfl rfl rfl (c3) rfl ?_)
   refine ro rfl (ok_assign rfl rfl rfl rfl ?_)
   refine rn ?_
   (repeat (first | refine uw ?_ | refine uo rfl ?_))
   have e1 := oi h1
   subst e1
   exact ghost_le (le_mk ⟨er rfl, trivial⟩ trivial)

def ref14_node (n : Nat) (e_0 : TExpr) : Option Int :=
 (ref14_shaped e_0).bind fun r1 =>
 if (!r1) = true then
  some 1
 else
  if e_0.fKind = 1 then
   (ref07_Check n e_0.fValue).bind fun r5 =>
   some r5
  else
   (
     (ref14_named e_0.fKind).bind fun r7 =>
     if r7 = true then
      (ref06_Identifier n e_0.fName).bind fun r10 =>
      if (!r10) = true then
       some true
      else
       if e_0.fKind = 4 then
        some false
       else
        (ref14_Reserved e_0.fName).bind fun r14 =>
        some r14
     else
      some false
    : Option Bool).bind fun t16 =>
   if t16 = true then
    some 7
   else
    (
      if e_0.fKey = ([] : Bytes) then
       some false
      else
       (ref14_Name n e_0.fKey).bind fun r19 =>
       some (!r19)
     : Option Bool).bind fun t21 =>
    if t21 = true then
     some 7
    else
     some 0

set_option maxHeartbeats 4000000 in
theorem ref14_node_ok (n : Nat) (e_0 : TExpr) (r : Int) (h0 : ref14_node n e_0 = some r) : PCalls Try.prog 57 [.agg (TExpr.cs e_0)] (· = .p (eI r)) := by
 unfold ref14_node at h0
 refine pbodyA good Try.func57 rfl rfl rfl fun w0 => ?_
 refine awp_seq (awp_reg ?_)
 refine ro rfl (ok_box rfl rfl rfl rfl rfl ?_)
 refine ro rfl (ok_assign rfl rfl rfl rfl ?_)
 refine rn ?_
 refine awp_seq (awp_seq (awp_reg ?_))
 refine ro rfl (ok_loadPA rfl rfl rfl rfl rfl rfl rfl rfl rfl ?_)
 obtain ⟨r1, e2, h0⟩ := bd_cut h0
 refine ro rfl (ok_callP (ref14_shaped_ok e_0 _ e2) rfl rfl rfl rfl ⟨sr, trivial⟩ Try.call66 rfl ?_)
 refine ro rfl (ok_not rfl rfl rfl rfl ?_)
 refine rn ?_
 refine wp_if rfl (fun c3 => ?_) (fun c3 => ?_)
 ·replace h0 := if_t c3 h0
  refine awp_seq (awp_reg ?_)
  refine ro rfl (ok_assign rfl rfl rfl rfl ?_)
  refine rn ?_
  refine awp_ret ?_
  (repeat (first | refine uw ?_ | refine uo rfl ?_))
  have e0 := oi h0
  subst e0
  refine reta_mk rfl ?_
  exact sr
 ·replace h0 := if_bf c3 h0
  refine awp_skip (awp_seq (awp_seq (awp_reg ?_)))
  refine ro rfl (ok_fieldAddrP rfl rfl rfl rfl rfl rfl rfl rfl rfl ?_)
  refine ro rfl (ok_loadP1 rfl rfl rfl rfl rfl rfl rfl rfl ?_)
  refine ro rfl (ok_cmp rfl rfl rfl rfl rfl rfl ?_)
  refine rn ?_
  refine wp_ifD rfl (fun c4 => ?_) (fun c4 => ?_)
  ·replace h0 := if_t c4 h0
   refine awp_seq (awp_reg ?_)
   refine ro rfl (ok_fieldAddrP rfl rfl rfl rfl rfl rfl rfl rfl rfl ?_)
   refine ro rfl (ok_loadPA rfl rfl rfl rfl rfl rfl rfl rfl rfl ?_)
   obtain ⟨r5, e6, h0⟩ := bd_cut h0
   refine ro rfl (ok_callP (ref07_Check_ok _ e_0.fValue _ e6) rfl rfl rfl rfl ⟨sr, trivial⟩ Try.call67 rfl ?_)
   refine ro rfl (ok_assign rfl rfl rfl rfl ?_)
   refine rn ?_
   refine awp_ret ?_
   (repeat (first | refine uw ?_ | refine uo rfl ?_))
   have e0 := oi h0
   subst e0
   refine reta_mk rfl ?_
   exact sr
  ·replace h0 := if_f c4 h0
   refine awp_skip (awp_seq (awp_seq ?_))
   obtain ⟨o25, h1, h0⟩ := bd_cut h0
   refine awp_joinN ⟨[(1, .ptr 1 0), (30, .p (eB o25))], [(1, [.p (eI e_0.fKind), .p (eI e_0.fOp), .p (eS e_0.fName), .p (eS e_0.fKey), .p (eI e_0.fValue.fKind), .p (eI e_0.fValue.fNum), .p (eS e_0.fValue.fStr), .p (eL eTValue e_0.fValue.fItems), .p (eL eS e_0.fValue.fKeys), .p (eL eTExpr e_0.fKids), .p (eI e_0.fAt)])]⟩ ?_ ?_
   ·intro s' hle
    (repeat (first | refine uw ?_ | refine uo rfl ?_))
    refine awp_ghost hle ?_
    refine wp_if rfl (fun c17 => ?_) (fun c17 => ?_)
    ·replace h0 := if_t c17 h0
     refine awp_seq (awp_reg ?_)
     refine ro rfl (ok_assign rfl rfl rfl rfl ?_)
     refine rn ?_
     refine awp_ret ?_
     (repeat (first | refine uw ?_ | refine uo rfl ?_))
     have e0 := oi h0
     subst e0
     refine reta_mk rfl ?_
     exact sr
    ·replace h0 := if_bf c17 h0
     refine awp_skip (awp_seq (awp_seq ?_))
     obtain ⟨o27, h1, h0⟩ := bd_cut h0
     refine awp_joinN ⟨[(39, .p (eB o27))], []⟩ ?_ ?_
     ·intro s' hle
      (repeat (first | refine uw ?_ | refine uo rfl ?_))
      refine awp_ghost hle ?_
      refine wp_if rfl (fun c22 => ?_) (fun c22 => ?_)
      ·replace h0 := if_t c22 h0
       refine awp_seq (awp_reg ?_)
       refine ro rfl (ok_assign rfl rfl rfl rfl ?_)
       refine rn ?_
       refine awp_ret ?_
       (repeat (first | refine uw ?_ | refine uo rfl ?_))
       have e0 := oi h0
       subst e0
       refine reta_mk rfl ?_
       exact sr
      ·replace h0 := if_bf c22 h0
       refine awp_skip (awp_seq (awp_reg ?_))
       refine ro rfl (ok_assign rfl rfl rfl rfl ?_)
       refine rn ?_
       refine awp_ret ?_
       (repeat (first | refine uw ?_ | refine uo rfl ?_))
       have e0 := oi h0
       subst e0
       refine reta_mk rfl ?_
       exact sr
     ·skip
      refine awp_reg ?_
      refine ro rfl (ok_fieldAddrP rfl rfl rfl rfl rfl rfl rfl rfl rfl ?_)
      refine ro rfl (ok_loadP1 rfl rfl rfl rfl rfl rfl rfl rfl ?_)
      refine ro rfl (ok_cmpS rfl rfl rfl rfl rfl rfl ?_)
      refine ro rfl (ok_move rfl rfl rfl rfl ?_)
      refine gd_N rfl rfl rfl (fun c18 => ?_) (fun c18 => ?_)
      ·replace h1 := if_t c18 h1
       refine gd_tf rfl rfl rfl (nd_false c18) rfl rfl ?_
       refine gd_tf rfl rfl rfl (nd_false c18) rfl rfl ?_
       refine gd_tf rfl rfl rfl (nd_false c18) rfl rfl ?_
       refine gd_tf rfl rfl rfl (nd_false c18) rfl rfl ?_
       refine ro rfl (ok_pick_false rfl rfl rfl rfl (nd_false c18) rfl ?_)
       refine rn ?_
       (repeat (first | refine uw ?_ | refine uo rfl ?_))
       have e1 := oi h1
       subst e1
       exact ghost_le (le_mk ⟨er rfl, trivial⟩ trivial)
      ·replace h1 := if_f c18 h1
       refine gd_tt rfl rfl rfl (nd_true c18) (ok_fieldAddrP rfl rfl rfl rfl rfl rfl rfl rfl rfl ?_)
       refine gd_tt rfl rfl rfl (nd_true c18) (ok_loadP1 rfl rfl rfl rfl rfl rfl rfl rfl ?_)
       obtain ⟨r19, e20, h1⟩ := bd_cut h1
       refine gd_tt rfl rfl rfl (nd_true c18) (ok_callP (ref14_Name_ok _ e_0.fKey _ e20) rfl rfl rfl rfl ⟨sr, trivial⟩ Try.call70 rfl ?_)
       refine gd_tt rfl rfl rfl (nd_true c18) (ok_not rfl rfl rfl rfl ?_)
       refine ro rfl (ok_pick_true rfl rfl rfl rfl (nd_true c18) rfl ?_)
       refine rn ?_
       (repeat (first | refine uw ?_ | refine uo rfl ?_))
       have e1 := oi h1
       subst e1
       exact ghost_le (le_mk ⟨er rfl, trivial⟩ trivial)
   ·skip
    refine awp_reg ?_
    refine ro rfl (ok_fieldAddrP rfl rfl rfl rfl rfl rfl rfl rfl rfl ?_)
    refine ro rfl (ok_loadP1 rfl rfl rfl rfl rfl rfl rfl rfl ?_)
    obtain ⟨r7, e8, h1⟩ := bd_cut h1
    refine ro rfl (ok_callP (ref14_named_ok e_0.fKind _ e8) rfl rfl rfl rfl ⟨sr, trivial⟩ Try.call68 rfl ?_)
    refine ro rfl (ok_move rfl rfl rfl rfl ?_)
    refine gd_B rfl rfl rfl (fun c9 => ?_) (fun c9 => ?_)
    ·replace h1 := if_t c9 h1
     refine gd_tt rfl rfl rfl (c9) (ok_fieldAddrP rfl rfl rfl rfl rfl rfl rfl rfl rfl ?_)
     refine gd_tt rfl rfl rfl (c9) (ok_loadP1 rfl rfl rfl rfl rfl rfl rfl rfl ?_)
     obtain ⟨r10, e11, h1⟩ := bd_cut h1
     refine gd_tt rfl rfl rfl (c9) (ok_callP (ref06_Identifier_ok _ e_0.fName _ e11) rfl rfl rfl rfl ⟨sr, trivial⟩ Try.call59 rfl ?_)
     refine gd_tt rfl rfl rfl (c9) (ok_not rfl rfl rfl rfl ?_)
     refine gd_tt rfl rfl rfl (c9) (ok_move rfl rfl rfl rfl ?_)
     refine gd_B rfl rfl rfl (fun c12 => ?_) (fun c12 => ?_)
     ·replace h1 := if_t c12 h1
      refine gd_ft rfl rfl rfl (c12) rfl rfl ?_
      refine gd_ft rfl rfl rfl (c12) rfl rfl ?_
      refine gd_ft rfl rfl rfl (c12) rfl rfl ?_
      refine gd_ft rfl rfl rfl (c12) rfl rfl ?_
      refine gd_none rfl rfl rfl rfl rfl ?_
      refine gd_none rfl rfl rfl rfl rfl ?_
      refine gd_none rfl rfl rfl rfl rfl ?_
      refine gd_ft rfl rfl rfl (c12) rfl rfl ?_
      refine gd_tt rfl rfl rfl (c9) (ok_pick_true rfl rfl rfl rfl (c12) rfl ?_)
      refine ro rfl (ok_pick_true rfl rfl rfl rfl (c9) rfl ?_)
      refine rn ?_
      (repeat (first | refine uw ?_ | refine uo rfl ?_))
      have e1 := oi h1
      subst e1
      exact ghost_le (le_mk ⟨er rfl, er rfl, trivial⟩ ⟨⟨_, rfl, ⟨sr, sr, sr, sr, sr, sr, sr, sr, sr, sr, sr, trivial⟩⟩, trivial⟩)
     ·replace h1 := if_bf c12 h1
      refine gd_ff rfl rfl rfl (c12) (ok_fieldAddrP rfl rfl rfl rfl rfl rfl rfl rfl rfl ?_)
      refine gd_ff rfl rfl rfl (c12) (ok_loadP1 rfl rfl rfl rfl rfl rfl rfl rfl ?_)
      refine gd_ff rfl rfl rfl (c12) (ok_cmp rfl rfl rfl rfl rfl rfl ?_)
      refine gd_ff rfl rfl rfl (c12) (ok_move rfl rfl rfl rfl ?_)
      refine gd_N rfl rfl rfl (fun c13 => ?_) (fun c13 => ?_)
      ·replace h1 := if_t c13 h1
       refine gd_tf rfl rfl rfl (nd_false c13) rfl rfl ?_
       refine gd_tf rfl rfl rfl (nd_false c13) rfl rfl ?_
       refine gd_tf rfl rfl rfl (nd_false c13) rfl rfl ?_
       refine gd_ff rfl rfl rfl (c12) (ok_pick_false rfl rfl rfl rfl (nd_false c13) rfl ?_)
       refine gd_tt rfl rfl rfl (c9) (ok_pick_false rfl rfl rfl rfl (c12) rfl ?_)
       refine ro rfl (ok_pick_true rfl rfl rfl rfl (c9) rfl ?_)
       refine rn ?_
       (repeat (first | refine uw ?_ | refine uo rfl ?_))
       have e1 := oi h1
       subst e1
       exact ghost_le (le_mk ⟨er rfl, er rfl, trivial⟩ ⟨⟨_, rfl, ⟨sr, sr, sr, sr, sr, sr, sr, sr, sr, sr, sr, trivial⟩⟩, trivial⟩)
      ·replace h1 := if_f c13 h1
       refine gd_tt rfl rfl rfl (nd_true c13) (ok_fieldAddrP rfl rfl rfl rfl rfl rfl rfl rfl rfl ?_)
       refine gd_tt rfl rfl rfl (nd_true c13) (ok_loadP1 rfl rfl rfl rfl rfl rfl rfl rfl ?_)
       obtain ⟨r14, e15, h1⟩ := bd_cut h1
       refine gd_tt rfl rfl rfl (nd_true c13) (ok_callP (ref14_Reserved_ok e_0.fName _ e15) rfl rfl rfl rfl ⟨sr, trivial⟩ Try.call69 rfl ?_)
       refine gd_ff rfl rfl rfl (c12) (ok_pick_true rfl rfl rfl rfl (nd_true c13) rfl ?_)
       refine gd_tt rfl rfl rfl (c9) (ok_pick_false rfl rfl rfl rfl (c12) rfl ?_)
       refine ro rfl (ok_pick_true rfl rfl rfl rfl (c9) rfl ?_)
       refine rn ?_
       (repeat (first | refine uw ?_ | refine uo rfl ?_))
       have e1 := oi h1
       subst e1
       exact ghost_le (le_mk ⟨er rfl, er rfl, trivial⟩ ⟨⟨_, rfl, ⟨sr, sr, sr, sr, sr, sr, sr, sr, sr, sr, sr, trivial⟩⟩, trivial⟩)
    ·replace h1 := if_bf c9 h1
     refine gd_tf rfl rfl rfl (c9) rfl rfl ?_
     refine gd_tf rfl rfl rfl (c9) rfl rfl ?_
     refine gd_tf rfl rfl rfl (c9) rfl rfl ?_
     refine gd_tf rfl rfl rfl (c9) rfl rfl ?_
     refine gd_tf rfl rfl rfl (c9) rfl rfl ?_
     refine gd_none rfl rfl rfl rfl rfl ?_
     refine gd_none rfl rfl rfl rfl rfl ?_
     refine gd_none rfl rfl rfl rfl rfl ?_
     refine gd_none rfl rfl rfl rfl rfl ?_
     refine gd_none rfl rfl rfl rfl rfl ?_
     refine gd_none rfl rfl rfl rfl rfl ?_
     refine gd_none rfl rfl rfl rfl rfl ?_
     refine gd_none rfl rfl rfl rfl rfl ?_
     refine gd_tf rfl rfl rfl (c9) rfl rfl ?_
     refine ro rfl (ok_pick_false rfl rfl rfl rfl (c9) rfl ?_)
     refine rn ?_
     (repeat (first | refine uw ?_ | refine uo rfl ?_))
     have e1 := oi h1
     subst e1
     exact ghost_le (le_mk ⟨er rfl, er rfl, trivial⟩ ⟨⟨_, rfl, ⟨sr, sr, sr, sr, sr, sr, sr, sr, sr, sr, sr, trivial⟩⟩, trivial⟩)

def ref14_check_l1 (r_ref14_check : TExpr → Int → Int → Option (Int × Int)) (e_0 : TExpr) (level_1 : Int) : Nat → Int → Int → Int → Option (Int × Int)
 | 0, _, _, _ => none
 | m + 1, k17, n18, i19 =>
 (
   if i19 < (e_0.fKids.length : Int) then
    some (decide (k17 = 0))
   else
    some false
  : Option Bool).bind fun t21 =>
 if t21 = true then
  ck ((0 : Int) ≤ i19 ∧ i19 < (e_0.fKids.length : Int)) <|
  ck (inR (level_1 + 1)) <|
  (r_ref14_check (lat e_0.fKids i19) (level_1 + 1) n18).bind fun r25 =>
  ck (inR (i19 + 1)) <|
  ref14_check_l1 r_ref14_check e_0 level_1 m r25.1 r25.2 (i19 + 1)
 else
  some (k17, n18)

def ref14_check : Nat → TExpr → Int → Int → Option (Int × Int)
 | 0, _, _, _ => none
 | n + 1, e_0, level_1, before_2 =>
 if 32 < level_1 then
  some (4, 0)
 else
  if 4096 ≤ before_2 then
   some (14, 0)
  else
   (ref14_node n e_0).bind fun r3 =>
   ck (inR (before_2 + 1)) <|
   (ref14_check_l1 (ref14_check n) e_0 level_1 n r3 (before_2 + 1) 0).bind fun q33 =>
   some (q33.1, q33.2)

set_option maxHeartbeats 4000000 in
theorem ref14_check_ok (n : Nat) : ∀ (e_0 : TExpr) (level_1 : Int) (before_2 : Int) (r : Int × Int), ref14_check n e_0 level_1 before_2 = some r → PCalls Try.prog 40 [.agg (TExpr.cs e_0), eI level_1, eI before_2] (· = .tuple [.p (eI r.1), .p (eI r.2)]) := by
 induction n with
 | zero => intro e_0 level_1 before_2 r h0; cases h0
 | succ n ih =>
 have ih_ref14_check_ok := ih
 intro e_0 level_1 before_2 r h0
 rw [ref14_check] at h0
 refine pbodyA good Try.func40 rfl rfl rfl fun w0 => ?_
 refine awp_seq (awp_reg ?_)
 refine ro rfl (ok_box rfl rfl rfl rfl rfl ?_)
 refine ro rfl (ok_assign rfl rfl rfl rfl ?_)
 refine ro rfl (ok_assign rfl rfl rfl rfl ?_)
 refine rn ?_
 refine awp_seq (awp_seq (awp_reg ?_))
 refine ro rfl (ok_move rfl rfl rfl rfl ?_)
 refine ro rfl (ok_cmp rfl rfl rfl rfl rfl rfl ?_)
 refine rn ?_
 refine wp_ifD rfl (fun c1 => ?_) (fun c1 => ?_)
 ·replace h0 := if_t c1 h0
  refine awp_seq (awp_reg ?_)
  refine ro rfl (ok_assign rfl rfl rfl rfl ?_)
  refine ro rfl (ok_assign rfl rfl rfl rfl ?_)
  refine rn ?_
  refine awp_ret ?_
  (repeat (first | refine uw ?_ | refine uo rfl ?_))
  have e0 := oi h0
  subst e0
  refine reta_mk rfl ?_
  exact sub_tuple ⟨sr, sr, trivial⟩
 ·replace h0 := if_f c1 h0
  refine awp_skip (awp_seq (awp_seq (awp_reg ?_)))
  refine ro rfl (ok_move rfl rfl rfl rfl ?_)
  refine ro rfl (ok_cmp rfl rfl rfl rfl rfl rfl ?_)
  refine rn ?_
  refine wp_ifD rfl (fun c2 => ?_) (fun c2 => ?_)
  ·replace h0 := if_t c2 h0
   refine awp_seq (awp_reg ?_)
   refine ro rfl (ok_assign rfl rfl rfl rfl ?_)
   refine ro rfl (ok_assign rfl rfl rfl rfl ?_)
   refine rn ?_
   refine awp_ret ?_
   (repeat (first | refine uw ?_ | refine uo rfl ?_))
   have e0 := oi h0
   subst e0
   refine reta_mk rfl ?_
   exact sub_tuple ⟨sr, sr, trivial⟩
  ·replace h0 := if_f c2 h0
   refine awp_skip (awp_seq (awp_reg ?_))
   refine ro rfl (ok_loadPA rfl rfl rfl rfl rfl rfl rfl rfl rfl ?_)
   obtain ⟨r3, e4, h0⟩ := bd_cut h0
   refine ro rfl (ok_callP (ref14_node_ok _ e_0 _ e4) rfl rfl rfl rfl ⟨sr, trivial⟩ Try.call57 rfl ?_)
   refine ro rfl (ok_assign rfl rfl rfl rfl ?_)
   refine rn ?_
   refine awp_seq (awp_reg ?_)
   refine ro rfl (ok_move rfl rfl rfl rfl ?_)
   obtain ⟨h5, h0⟩ := ck_cut h0
   refine ro rfl (ok_ar rfl rfl rfl rfl rfl rfl h5 ?_)
   refine ro rfl (ok_assign rfl rfl rfl rfl ?_)
   refine rn ?_
   refine awp_seq (awp_seq (awp_reg ?_))
   refine ro rfl (ok_assign rfl rfl rfl rfl ?_)
   refine rn ?_
   refine awp_block ?_
   obtain ⟨o35, h1, h0⟩ := bd_cut h0
   refine awp_joinE 0 ⟨[(8, .p (eI o35.1)), (9, .p (eI o35.2))], []⟩ ?_ ?_
   ·intro s' hle
    (repeat (first | refine uw ?_ | refine uo rfl ?_))
    refine awp_ghost hle ?_
    (repeat (first | refine uw ?_ | refine uo rfl ?_))
    refine awp_seq (awp_reg ?_)
    refine ro rfl (ok_move rfl rfl rfl rfl ?_)
    refine ro rfl (ok_move rfl rfl rfl rfl ?_)
    refine ro rfl (ok_assign rfl rfl rfl rfl ?_)
    refine ro rfl (ok_assign rfl rfl rfl rfl ?_)
    refine rn ?_
    refine awp_ret ?_
    (repeat (first | refine uw ?_ | refine uo rfl ?_))
    have e0 := oi h0
    subst e0
    refine reta_mk rfl ?_
    exact sub_tuple ⟨sr, sr, trivial⟩
   ·skip
    refine awp_loopG (fun q37 => ⟨[(1, .p (eI level_1)), (3, .ptr 3 0), (8, .p (eI q37.1)), (9, .p (eI q37.2.1)), (10, .p (eI q37.2.2))], [(3, [.p (eI e_0.fKind), .p (eI e_0.fOp), .p (eS e_0.fName), .p (eS e_0.fKey), .p (eI e_0.fValue.fKind), .p (eI e_0.fValue.fNum), .p (eS e_0.fValue.fStr), .p (eL eTValue e_0.fValue.fItems), .p (eL eS e_0.fValue.fKeys), .p (eL eTExpr e_0.fKids), .p (eI e_0.fAt)])]⟩) (fun m (q37 : Int × Int × Int) => ref14_check_l1 (ref14_check n) e_0 level_1 m q37.1 q37.2.1 q37.2.2) (fun _ => rfl) (r3, before_2 + 1, 0) h1 (ghost_le (le_mk ⟨er rfl, er rfl, er rfl, er rfl, er rfl, trivial⟩ ⟨⟨_, rfl, ⟨sr, sr, sr, sr, sr, sr, sr, sr, sr, sr, sr, trivial⟩⟩, trivial⟩)) ?_
    rintro m ⟨k17, n18, i19⟩ h1
    replace h1 : ref14_check_l1 (ref14_check n) e_0 level_1 (m + 1) k17 n18 i19 = some o35 := h1
    rw [ref14_check_l1] at h1
    refine awp_seq (awp_seq ?_)
    obtain ⟨o38, h2, h1⟩ := bd_cut h1
    refine awp_joinN ⟨[(1, .p (eI level_1)), (3, .ptr 3 0), (8, .p (eI k17)), (9, .p (eI n18)), (10, .p (eI i19)), (27, .p (eB o38))], [(3, [.p (eI e_0.fKind), .p (eI e_0.fOp), .p (eS e_0.fName), .p (eS e_0.fKey), .p (eI e_0.fValue.fKind), .p (eI e_0.fValue.fNum), .p (eS e_0.fValue.fStr), .p (eL eTValue e_0.fValue.fItems), .p (eL eS e_0.fValue.fKeys), .p (eL eTExpr e_0.fKids), .p (eI e_0.fAt)])]⟩ ?_ ?_
    ·intro s' hle
     (repeat (first | refine uw ?_ | refine uo rfl ?_))
     refine awp_ghost hle ?_
     refine wp_if rfl (fun c22 => ?_) (fun c22 => ?_)
     ·replace h1 := if_t c22 h1
      refine awp_skip (awp_seq (awp_block (awp_reg ?_)))
      refine ro rfl (ok_fieldAddrP rfl rfl rfl rfl rfl rfl rfl rfl rfl ?_)
      refine ro rfl (ok_loadP1 rfl rfl rfl rfl rfl rfl rfl rfl ?_)
      refine ro rfl (ok_move rfl rfl rfl rfl ?_)
      obtain ⟨h23, h1⟩ := ck_cut h1
      refine ro rfl (op_at (f := eTExpr) (l := e_0.fKids) TExpr.cs rfl rfl rfl rfl rfl rfl rfl rfl rfl h23 TExpr.cells_eq (fun _ => rfl) ?_)
      refine ro rfl (ok_loadRA rfl rfl rfl rfl rfl rfl rfl ?_)
      refine ro rfl (ok_move rfl rfl rfl rfl ?_)
      obtain ⟨h24, h1⟩ := ck_cut h1
      refine ro rfl (ok_ar rfl rfl rfl rfl rfl rfl h24 ?_)
      refine ro rfl (ok_move rfl rfl rfl rfl ?_)
      obtain ⟨r25, e26, h1⟩ := bd_cut h1
      refine ro rfl (ok_callP (ih_ref14_check_ok (lat e_0.fKids i19) (level_1 + 1) n18 _ e26) rfl rfl rfl rfl ⟨sr, sr, sr, trivial⟩ Try.call40 rfl ?_)
      refine ro rfl (ok_move rfl rfl rfl rfl ?_)
      refine ro rfl (ok_extract rfl rfl rfl rfl rfl ?_)
      refine ro rfl (ok_extract rfl rfl rfl rfl rfl ?_)
      refine ro rfl (ok_assign rfl rfl rfl rfl ?_)
      refine ro rfl (ok_assign rfl rfl rfl rfl ?_)
      refine rn ?_
      (repeat (first | refine uw ?_ | refine uo rfl ?_))
      refine awp_reg ?_
      refine ro rfl (ok_move rfl rfl rfl rfl ?_)
      obtain ⟨h27, h1⟩ := ck_cut h1
      refine ro rfl (ok_ar rfl rfl rfl rfl rfl rfl h27 ?_)
      refine ro rfl (ok_assign rfl rfl rfl rfl ?_)
      refine rn ?_
      (repeat (first | refine uw ?_ | refine uo rfl ?_))
      exact ⟨(r25.1, r25.2, i19 + 1), h1, ghost_le (le_mk ⟨er rfl, er rfl, er rfl, er rfl, er rfl, trivial⟩ ⟨⟨_, rfl, ⟨sr, sr, sr, sr, sr, sr, sr, sr, sr, sr, sr, trivial⟩⟩, trivial⟩)⟩
     ·replace h1 := if_bf c22 h1
      refine awp_exit ?_
      (repeat (first | refine uw ?_ | refine uo rfl ?_))
      have e1 := oi h1
      subst e1
      exact ghost_le (le_mk ⟨er rfl, er rfl, trivial⟩ trivial)
    ·skip
     refine awp_reg ?_
     refine ro rfl (ok_move rfl rfl rfl rfl ?_)
     refine ro rfl (ok_fieldAddrP rfl rfl rfl rfl rfl rfl rfl rfl rfl ?_)
     refine ro rfl (ok_loadP1 rfl rfl rfl rfl rfl rfl rfl rfl ?_)
     refine ro rfl (op_lenL (f := eTExpr) (l := e_0.fKids) rfl rfl rfl rfl rfl rfl rfl ?_)
     refine ro rfl (ok_cmp rfl rfl rfl rfl rfl rfl ?_)
     refine ro rfl (ok_move rfl rfl rfl rfl ?_)
     refine gd_D rfl rfl rfl (fun c20 => ?_) (fun c20 => ?_)
     ·replace h2 := if_t c20 h2
      refine gd_tt rfl rfl rfl (dt c20) (ok_move rfl rfl rfl rfl ?_)
      refine gd_tt rfl rfl rfl (dt c20) (ok_cmp rfl rfl rfl rfl rfl rfl ?_)
      refine ro rfl (ok_pick_true rfl rfl rfl rfl (dt c20) rfl ?_)
      refine rn ?_
      (repeat (first | refine uw ?_ | refine uo rfl ?_))
      have e2 := oi h2
      subst e2
      exact ghost_le (le_mk ⟨er rfl, er rfl, er rfl, er rfl, er rfl, er rfl, trivial⟩ ⟨⟨_, rfl, ⟨sr, sr, sr, sr, sr, sr, sr, sr, sr, sr, sr, trivial⟩⟩, trivial⟩)
     ·replace h2 := if_f c20 h2
      refine gd_tf rfl rfl rfl (df c20) rfl rfl ?_
      refine gd_tf rfl rfl rfl (df c20) rfl rfl ?_
      refine ro rfl (ok_pick_false rfl rfl rfl rfl (df c20) rfl ?_)
      refine rn ?_
      (repeat (first | refine uw ?_ | refine uo rfl ?_))
      have e2 := oi h2
      subst e2
      exact ghost_le (le_mk ⟨er rfl, er rfl, er rfl, er rfl, er rfl, er rfl, trivial⟩ ⟨⟨_, rfl, ⟨sr, sr, sr, sr, sr, sr, sr, sr, sr, sr, sr, trivial⟩⟩, trivial⟩)

def ref14_Check (n : Nat) (e_0 : TExpr) : Option Int :=
 (ref14_check n e_0 1 0).bind fun r1 =>
 some r1.1

set_option maxHeartbeats 4000000 in
theorem ref14_Check_ok (n : Nat) (e_0 : TExpr) (r : Int) (h0 : ref14_Check n e_0 = some r) : PCalls Try.prog 24 [.agg (TExpr.cs e_0)] (· = .p (eI r)) := by
 unfold ref14_Check at h0
 refine pbodyA good Try.func24 rfl rfl rfl fun w0 => ?_
 refine awp_seq (awp_reg ?_)
 refine ro rfl (ok_box rfl rfl rfl rfl rfl ?_)
 refine ro rfl (ok_assign rfl rfl rfl rfl ?_)
 refine rn ?_
 refine awp_seq (awp_reg ?_)
 refine ro rfl (ok_loadPA rfl rfl rfl rfl rfl rfl rfl rfl rfl ?_)
 obtain ⟨r1, e2, h0⟩ := bd_cut h0
 refine ro rfl (ok_callP (ref14_check_ok _ e_0 1 0 _ e2) rfl rfl rfl rfl ⟨sr, sr, sr, trivial⟩ Try.call40 rfl ?_)
 refine ro rfl (ok_move rfl rfl rfl rfl ?_)
 refine ro rfl (ok_extract rfl rfl rfl rfl rfl ?_)
 refine ro rfl (ok_extract rfl rfl rfl rfl rfl ?_)
 refine ro rfl (ok_assign rfl rfl rfl rfl ?_)
 refine ro rfl (ok_assign rfl rfl rfl rfl ?_)
 refine rn ?_
 refine awp_seq (awp_reg ?_)
 refine ro rfl (ok_move rfl rfl rfl rfl ?_)
 refine ro rfl (ok_assign rfl rfl rfl rfl ?_)
 refine rn ?_
 refine awp_ret ?_
 (repeat (first | refine uw ?_ | refine uo rfl ?_))
 have e0 := oi h0
 subst e0
 refine reta_mk rfl ?_
 exact sr

def law17_right (n : Nat) (e_0 : TExpr) : Option Bool :=
 (
   (ref14_Small n e_0 200).bind fun r1 =>
   if r1 = true then
    (ref14_Check n e_0).bind fun r4 =>
    some (decide (r4 = 0))
   else
    some false
  : Option Bool).bind fun t6 =>
 some t6

set_option maxHeartbeats 4000000 in
theorem law17_right_ok (n : Nat) (e_0 : TExpr) (r : Bool) (h0 : law17_right n e_0 = some r) : PCalls Try.prog 8 [.agg (TExpr.cs e_0)] (· = .p (eB r)) := by
 unfold law17_right at h0
 refine pbodyA good Try.func8 rfl rfl rfl fun w0 => ?_
 refine awp_seq (awp_reg ?_)
 refine ro rfl (ok_box rfl rfl rfl rfl rfl ?_)
 refine ro rfl (ok_assign rfl rfl rfl rfl ?_)
 refine rn ?_
 refine awp_seq ?_
 obtain ⟨o8, h1, h0⟩ := bd_cut h0
 refine awp_joinN ⟨[(2, .p (eB o8))], []⟩ ?_ ?_
 ·intro s' hle
  (repeat (first | refine uw ?_ | refine uo rfl ?_))
  refine awp_ghost hle ?_
  refine awp_ret ?_
  (repeat (first | refine uw ?_ | refine uo rfl ?_))
  have e0 := oi h0
  subst e0
  refine reta_mk rfl ?_
  exact sr
 ·skip
  refine awp_reg ?_
  refine ro rfl (ok_loadPA rfl rfl rfl rfl rfl rfl rfl rfl rfl ?_)
  obtain ⟨r1, e2, h1⟩ := bd_cut h1
  refine ro rfl (ok_callP (ref14_Small_ok _ e_0 200 _ e2) rfl rfl rfl rfl ⟨sr, sr, trivial⟩ Try.call23 rfl ?_)
  refine ro rfl (ok_move rfl rfl rfl rfl ?_)
  refine gd_B rfl rfl rfl (fun c3 => ?_) (fun c3 => ?_)
  ·replace h1 := if_t c3 h1
   refine gd_tt rfl rfl rfl (c3) (ok_loadPA rfl rfl rfl rfl rfl rfl rfl rfl rfl ?_)
   obtain ⟨r4, e5, h1⟩ := bd_cut h1
   refine gd_tt rfl rfl rfl (c3) (ok_callP (ref14_Check_ok _ e_0 _ e5) rfl rfl rfl rfl ⟨sr, trivial⟩ Try.call24 rfl ?_)
   refine gd_tt rfl rfl rfl (c3) (ok_cmp rfl rfl rfl rfl rfl rfl ?_)
   refine ro rfl (ok_pick_true rfl rfl rfl rfl (c3) rfl ?_)
   refine ro rfl (ok_assign rfl rfl rfl rfl ?_)
   refine rn ?_
   (repeat (first | refine uw ?_ | refine uo rfl ?_))
   have e1 := oi h1
   subst e1
   exact ghost_le (le_mk ⟨er rfl, trivial⟩ trivial)
  ·replace h1 := if_bf c3 h1
   refine gd_tf rfl rfl rfl (c3) rfl rfl ?_
   refine gd_tf rfl rfl rfl (c3) rfl rfl ?_
   refine gd_tf rfl rfl rfl (c3) rfl rfl ?_
   refine ro rfl (ok_pick_false rfl rfl rfl rfl (c3) rfl ?_)
   refine ro rfl (ok_assign rfl rfl rfl rfl ?_)
   refine rn ?_
   (repeat (first | refine uw ?_ | refine uo rfl ?_))
   have e1 := oi h1
   subst e1
   exact ghost_le (le_mk ⟨er rfl, trivial⟩ trivial)

def ref17_chain : Nat → TExpr → Option TChain
 | 0, _ => none
 | n + 1, e_0 =>
 (
   if e_0.fKind = 4 then
    some (decide ((e_0.fKids.length : Int) = 1))
   else
    some false
  : Option Bool).bind fun t2 =>
 if t2 = true then
  ck ((0 : Int) ≤ 0 ∧ 0 < (e_0.fKids.length : Int)) <|
  ((ref17_chain n) (lat e_0.fKids 0)).bind fun r5 =>
  ck ((r5.fNames.length + [e_0.fName].length) * 16 ≤ 140737488355328) <|
  ck ((r5.fStep.length + [true].length) * 1 ≤ 140737488355328) <|
  some (TChain.mk r5.fRoot (r5.fNames ++ [e_0.fName]) (r5.fStep ++ [true]) r5.fKids)
 else
  (
    if e_0.fKind = 5 then
     some (decide ((e_0.fKids.length : Int) = 2))
    else
     some false
   : Option Bool).bind fun t10 =>
  if t10 = true then
   ck ((0 : Int) ≤ 0 ∧ 0 < (e_0.fKids.length : Int)) <|
   ((ref17_chain n) (lat e_0.fKids 0)).bind fun r13 =>
   ck ((r13.fNames.length + ([([] : Bytes)]).length) * 16 ≤ 140737488355328) <|
   ck ((r13.fStep.length + [false].length) * 1 ≤ 140737488355328) <|
   ck ((0 : Int) ≤ 1 ∧ 1 < (e_0.fKids.length : Int)) <|
   ck ((r13.fKids.length + [(lat e_0.fKids 1)].length) * 160 ≤ 140737488355328) <|
   some (TChain.mk r13.fRoot (r13.fNames ++ ([([] : Bytes)])) (r13.fStep ++ [false]) (r13.fKids ++ [(lat e_0.fKids 1)]))
  else
   some (TChain.mk e_0 [] [] [])

set_option maxHeartbeats 4000000 in
theorem ref17_chain_ok (n : Nat) : ∀ (e_0 : TExpr) (r : TChain), ref17_chain n e_0 = some r → OCalls Try.prog 35 [.p (.agg (TExpr.cs e_0))] [] (fun x y => x = .agg [.p (eI r.fRoot.fKind), .p (eI r.fRoot.fOp), .p (eS r.fRoot.fName), .p (eS r.fRoot.fKey), .p (eI r.fRoot.fValue.fKind), .p (eI r.fRoot.fValue.fNum), .p (eS r.fRoot.fValue.fStr), .p (eL eTValue r.fRoot.fValue.fItems), .p (eL eS r.fRoot.fValue.fKeys), .p (eL eTExpr r.fRoot.fKids), .p (eI r.fRoot.fAt), .vec 2000000 1 (r.fNames.map eS), .vec 2000001 1 (r.fStep.map eB), .vec 2000002 11 (r.fKids.map eTExpr)] ∧ y = []) := by
 induction n with
 | zero => intro e_0 r h0; cases h0
 | succ n ih =>
 have ih_ref17_chain_ok := ih
 intro e_0 r h0
 rw [ref17_chain] at h0
 refine obodyG good [800000, 800001, 800002] [] Try.func35 rfl rfl rfl rfl rfl fun w0 F => ?_
 refine awp_seq (awp_reg ?_)
 refine ro rfl (ok_box rfl rfl rfl rfl rfl ?_)
 refine ro rfl (ok_alloc rfl rfl rfl rfl rfl ?_)
 refine rn ?_
 refine awp_seq (awp_seq ?_)
 obtain ⟨o21, h1, h0⟩ := bd_cut h0
 refine awp_joinN ⟨[(1, .ptr 1 0), (2, .ptr 2 0), (13, .p (eB o21))], [(1, [.p (eI e_0.fKind), .p (eI e_0.fOp), .p (eS e_0.fName), .p (eS e_0.fKey), .p (eI e_0.fValue.fKind), .p (eI e_0.fValue.fNum), .p (eS e_0.fValue.fStr), .p (eL eTValue e_0.fValue.fItems), .p (eL eS e_0.fValue.fKeys), .p (eL eTExpr e_0.fKids), .p (eI e_0.fAt)]), (2, [.p (eI 0), .p (eI 0), .p (eS ([] : Bytes)), .p (eS ([] : Bytes)), .p (eI 0), .p (eI 0), .p (eS ([] : Bytes)), .p (.val (.slice none 0 0)), .p (.val (.slice none 0 0)), .p (.val (.slice none 0 0)), .p (eI 0), .p (.val (.slice none 0 0)), .p (.val (.slice none 0 0)), .p (.val (.slice none 0 0))])]⟩ ?_ ?_
 ·intro s' hle
  (repeat (first | refine uw ?_ | refine uo rfl ?_))
  refine awp_ghost hle ?_
  refine wp_if rfl (fun c3 => ?_) (fun c3 => ?_)
  ·replace h0 := if_t c3 h0
   refine awp_seq (awp_reg ?_)
   refine ro rfl (ok_fieldAddrP rfl rfl rfl rfl rfl rfl rfl rfl rfl ?_)
   refine ro rfl (ok_loadP1 rfl rfl rfl rfl rfl rfl rfl rfl ?_)
   obtain ⟨h4, h0⟩ := ck_cut h0
   refine ro rfl (op_at (f := eTExpr) (l := e_0.fKids) TExpr.cs rfl rfl rfl rfl rfl rfl rfl rfl rfl h4 TExpr.cells_eq (fun _ => rfl) ?_)
   refine ro rfl (ok_loadRA rfl rfl rfl rfl rfl rfl rfl ?_)
   obtain ⟨r5, e6, h0⟩ := bd_cut h0
   refine ro rfl (op_callV [] [] 101000 101003 (ih_ref17_chain_ok (lat e_0.fKids 0) _ e6) rfl rfl rfl rfl rfl ⟨sr, trivial⟩ rfl rfl trivial rfl rfl rfl rfl rfl rfl rfl rfl Try.call35 rfl rfl ?_)
   refine ro rfl (ok_alloc rfl rfl rfl rfl rfl ?_)
   refine ro rfl (ok_store rfl rfl rfl rfl rfl rfl rfl rfl (Nat.le_of_ble_eq_true rfl) ?_)
   refine rn ?_
   refine awp_seq (awp_reg ?_)
   refine ro rfl (ok_fieldAddrP rfl rfl rfl rfl rfl rfl rfl rfl rfl ?_)
   refine ro rfl (ok_loadP1 rfl rfl rfl rfl rfl rfl rfl rfl ?_)
   refine ro rfl (ok_fieldAddrP rfl rfl rfl rfl rfl rfl rfl rfl rfl ?_)
   refine ro rfl (ok_loadP1 rfl rfl rfl rfl rfl rfl rfl rfl ?_)
   refine ro rfl (op_bslice eS [e_0.fName] rfl rfl rfl rfl rfl rfl rfl rfl rfl rfl rfl rfl rfl rfl ?_)
   obtain ⟨h7, h0⟩ := ck_cut h0
   refine ro rfl (op_appV eS r5.fNames [e_0.fName] rfl rfl rfl rfl rfl rfl rfl rfl rfl rfl rfl rfl rfl (fun _ => rfl) rfl rfl rfl h7 ?_)
   refine ro rfl (ok_fieldAddrP rfl rfl rfl rfl rfl rfl rfl rfl rfl ?_)
   refine ro rfl (ok_store rfl rfl rfl rfl rfl rfl rfl rfl (Nat.le_of_ble_eq_true rfl) ?_)
   refine rn ?_
   refine awp_seq (awp_reg ?_)
   refine ro rfl (ok_fieldAddrP rfl rfl rfl rfl rfl rfl rfl rfl rfl ?_)
   refine ro rfl (ok_loadP1 rfl rfl rfl rfl rfl rfl rfl rfl ?_)
   refine ro rfl (op_bslice eB [true] rfl rfl rfl rfl rfl rfl rfl rfl rfl rfl rfl rfl rfl rfl ?_)
   obtain ⟨h8, h0⟩ := ck_cut h0
   refine ro rfl (op_appV eB r5.fStep [true] rfl rfl rfl rfl rfl rfl rfl rfl rfl rfl rfl rfl rfl (fun _ => rfl) rfl rfl rfl h8 ?_)
   refine ro rfl (ok_fieldAddrP rfl rfl rfl rfl rfl rfl rfl rfl rfl ?_)
   refine ro rfl (ok_store rfl rfl rfl rfl rfl rfl rfl rfl (Nat.le_of_ble_eq_true rfl) ?_)
   refine rn ?_
   refine awp_seq (awp_reg ?_)
   refine ro rfl (ok_loadPA rfl rfl rfl rfl rfl rfl rfl rfl rfl ?_)
   refine ro rfl (ok_store rfl rfl rfl rfl rfl rfl rfl rfl (Nat.le_of_ble_eq_true rfl) ?_)
   refine rn ?_
   refine awp_ret ?_
   (repeat (first | refine uw ?_ | refine uo rfl ?_))
   have e0 := oi h0
   subst e0
   exact retg_mk (ghost_trans (ghost_ren 24 800000 rfl rfl rfl rfl rfl) (ghost_trans (ghost_ren 29 800001 rfl rfl rfl rfl rfl) (ghost_trans (ghost_ren 101002 800002 rfl rfl rfl rfl rfl) (ghost_refl _)))) rfl rfl rfl rfl (sr) trivial
  ·replace h0 := if_bf c3 h0
   refine awp_skip (awp_seq (awp_seq ?_))
   obtain ⟨o23, h1, h0⟩ := bd_cut h0
   refine awp_joinN ⟨[(1, .ptr 1 0), (2, .ptr 2 0), (40, .p (eB o23))], [(1, [.p (eI e_0.fKind), .p (eI e_0.fOp), .p (eS e_0.fName), .p (eS e_0.fKey), .p (eI e_0.fValue.fKind), .p (eI e_0.fValue.fNum), .p (eS e_0.fValue.fStr), .p (eL eTValue e_0.fValue.fItems), .p (eL eS e_0.fValue.fKeys), .p (eL eTExpr e_0.fKids), .p (eI e_0.fAt)]), (2, [.p (eI 0), .p (eI 0), .p (eS ([] : Bytes)), .p (eS ([] : Bytes)), .p (eI 0), .p (eI 0), .p (eS ([] : Bytes)), .p (.val (.slice none 0 0)), .p (.val (.slice none 0 0)), .p (.val (.slice none 0 0)), .p (eI 0), .p (.val (.slice none 0 0)), .p (.val (.slice none 0 0)), .p (.val (.slice none 0 0))])]⟩ ?_ ?_
   ·intro s' hle
    (repeat (first | refine uw ?_ | refine uo rfl ?_))
    refine awp_ghost hle ?_
    refine wp_if rfl (fun c11 => ?_) (fun c11 => ?_)
    ·replace h0 := if_t c11 h0
     refine awp_seq (awp_reg ?_)
     refine ro rfl (ok_fieldAddrP rfl rfl rfl rfl rfl rfl rfl rfl rfl ?_)
     refine ro rfl (ok_loadP1 rfl rfl rfl rfl rfl rfl rfl rfl ?_)
     obtain ⟨h12, h0⟩ := ck_cut h0
     refine ro rfl (op_at (f := eTExpr) (l := e_0.fKids) TExpr.cs rfl rfl rfl rfl rfl rfl rfl rfl rfl h12 TExpr.cells_eq (fun _ => rfl) ?_)
     refine ro rfl (ok_loadRA rfl rfl rfl rfl rfl rfl rfl ?_)
     obtain ⟨r13, e14, h0⟩ := bd_cut h0
     refine ro rfl (op_callV [] [] 102000 102003 (ih_ref17_chain_ok (lat e_0.fKids 0) _ e14) rfl rfl rfl rfl rfl ⟨sr, trivial⟩ rfl rfl trivial rfl rfl rfl rfl rfl rfl rfl rfl Try.call35 rfl rfl ?_)
     refine ro rfl (ok_alloc rfl rfl rfl rfl rfl ?_)
     refine ro rfl (ok_store rfl rfl rfl rfl rfl rfl rfl rfl (Nat.le_of_ble_eq_true rfl) ?_)
     refine rn ?_
     refine awp_seq (awp_reg ?_)
     refine ro rfl (ok_fieldAddrP rfl rfl rfl rfl rfl rfl rfl rfl rfl ?_)
     refine ro rfl (ok_loadP1 rfl rfl rfl rfl rfl rfl rfl rfl ?_)
     refine ro rfl (op_bslice eS [([] : Bytes)] rfl rfl rfl rfl rfl rfl rfl rfl rfl rfl rfl rfl rfl rfl ?_)
     obtain ⟨h15, h0⟩ := ck_cut h0
     refine ro rfl (op_appV eS r13.fNames ([([] : Bytes)]) rfl rfl rfl rfl rfl rfl rfl rfl rfl rfl rfl rfl rfl (fun _ => rfl) rfl rfl rfl h15 ?_)
     refine ro rfl (ok_fieldAddrP rfl rfl rfl rfl rfl rfl rfl rfl rfl ?_)
     refine ro rfl (ok_store rfl rfl rfl rfl rfl rfl rfl rfl (Nat.le_of_ble_eq_true rfl) ?_)
     refine rn ?_
     refine awp_seq (awp_reg ?_)
     refine ro rfl (ok_fieldAddrP rfl rfl rfl rfl rfl rfl rfl rfl rfl ?_)
     refine ro rfl (ok_loadP1 rfl rfl rfl rfl rfl rfl rfl rfl ?_)
     refine ro rfl (op_bslice eB [false] rfl rfl rfl rfl rfl rfl rfl rfl rfl rfl rfl rfl rfl rfl ?_)
     obtain ⟨h16, h0⟩ := ck_cut h0
     refine ro rfl (op_appV eB r13.fStep [false] rfl rfl rfl rfl rfl rfl rfl rfl rfl rfl rfl rfl rfl (fun _ => rfl) rfl rfl rfl h16 ?_)
     refine ro rfl (ok_fieldAddrP rfl rfl rfl rfl rfl rfl rfl rfl rfl ?_)
     refine ro rfl (ok_store rfl rfl rfl rfl rfl rfl rfl rfl (Nat.le_of_ble_eq_true rfl) ?_)
     refine rn ?_
     refine awp_seq ?_
     obtain ⟨h17, h0⟩ := ck_cut h0
     obtain ⟨h18, h0⟩ := ck_cut h0
     refine awp_ghost (ghost_le (t := ⟨[(1, .ptr 1 0), (2, .ptr 2 0), (4, .ptr 4 0)], [(1, [.p (eI e_0.fKind), .p (eI e_0.fOp), .p (eS e_0.fName), .p (eS e_0.fKey), .p (eI e_0.fValue.fKind), .p (eI e_0.fValue.fNum), .p (eS e_0.fValue.fStr), .p (eL eTValue e_0.fValue.fItems), .p (eL eS e_0.fValue.fKeys), .p (eL eTExpr e_0.fKids), .p (eI e_0.fAt)]), (2, [.p (eI 0), .p (eI 0), .p (eS ([] : Bytes)), .p (eS ([] : Bytes)), .p (eI 0), .p (eI 0), .p (eS ([] : Bytes)), .p (.val (.slice none 0 0)), .p (.val (.slice none 0 0)), .p (.val (.slice none 0 0)), .p (eI 0), .p (.val (.slice none 0 0)), .p (.val (.slice none 0 0)), .p (.val (.slice none 0 0))]), (4, [.p (eI r13.fRoot.fKind), .p (eI r13.fRoot.fOp), .p (eS r13.fRoot.fName), .p (eS r13.fRoot.fKey), .p (eI r13.fRoot.fValue.fKind), .p (eI r13.fRoot.fValue.fNum), .p (eS r13.fRoot.fValue.fStr), .p (eL eTValue r13.fRoot.fValue.fItems), .p (eL eS r13.fRoot.fValue.fKeys), .p (eL eTExpr r13.fRoot.fKids), .p (eI r13.fRoot.fAt), .vec 49 1 ((r13.fNames ++ ([([] : Bytes)])).map eS), .vec 54 1 ((r13.fStep ++ [false]).map eB), .vec 102002 11 (r13.fKids.map eTExpr)])]⟩) (le_mk ⟨er rfl, er rfl, er rfl, trivial⟩ ⟨⟨_, rfl, ⟨sr, sr, sr, sr, sr, sr, sr, sr, sr, sr, sr, trivial⟩⟩, ⟨_, rfl, ⟨sr, sr, sr, sr, sr, sr, sr, sr, sr, sr, sr, sr, sr, sr, trivial⟩⟩, ⟨_, rfl, ⟨sr, sr, sr, sr, sr, sr, sr, sr, sr, sr, sr, sr, sr, sr, trivial⟩⟩, trivial⟩)) ?_
     refine awp_drawS ⟨2, [7, 9], (by3 (some fun i => Nat.beq i 102002 || Nat.beq i 63) none none), (fun _ => [(1, .ptr 1 0), (2, .ptr 2 0), (4, .ptr 4 0)]), (by3 ([(1, [.p (eI e_0.fKind), .p (eI e_0.fOp), .p (eS e_0.fName), .p (eS e_0.fKey), .p (eI e_0.fValue.fKind), .p (eI e_0.fValue.fNum), .p (eS e_0.fValue.fStr), .p (eL eTValue e_0.fValue.fItems), .p (eL eS e_0.fValue.fKeys), .p (eL eTExpr e_0.fKids), .p (eI e_0.fAt)]), (2, [.p (eI 0), .p (eI 0), .p (eS ([] : Bytes)), .p (eS ([] : Bytes)), .p (eI 0), .p (eI 0), .p (eS ([] : Bytes)), .p (.val (.slice none 0 0)), .p (.val (.slice none 0 0)), .p (.val (.slice none 0 0)), .p (eI 0), .p (.val (.slice none 0 0)), .p (.val (.slice none 0 0)), .p (.val (.slice none 0 0))]), (4, [.p (eI r13.fRoot.fKind), .p (eI r13.fRoot.fOp), .p (eS r13.fRoot.fName), .p (eS r13.fRoot.fKey), .p (eI r13.fRoot.fValue.fKind), .p (eI r13.fRoot.fValue.fNum), .p (eS r13.fRoot.fValue.fStr), .p (eL eTValue r13.fRoot.fValue.fItems), .p (eL eS r13.fRoot.fValue.fKeys), .p (eL eTExpr r13.fRoot.fKids), .p (eI r13.fRoot.fAt), .vec 49 1 ((r13.fNames ++ ([([] : Bytes)])).map eS), .vec 54 1 ((r13.fStep ++ [false]).map eB), .vec 102002 11 (r13.fKids.map eTExpr)])]) ([(1, [.p (eI e_0.fKind), .p (eI e_0.fOp), .p (eS e_0.fName), .p (eS e_0.fKey), .p (eI e_0.fValue.fKind), .p (eI e_0.fValue.fNum), .p (eS e_0.fValue.fStr), .p (eL eTValue e_0.fValue.fItems), .p (eL eS e_0.fValue.fKeys), .p (eL eTExpr e_0.fKids), .p (eI e_0.fAt)]), (2, [.p (eI 0), .p (eI 0), .p (eS ([] : Bytes)), .p (eS ([] : Bytes)), .p (eI 0), .p (eI 0), .p (eS ([] : Bytes)), .p (.val (.slice none 0 0)), .p (.val (.slice none 0 0)), .p (.val (.slice none 0 0)), .p (eI 0), .p (.val (.slice none 0 0)), .p (.val (.slice none 0 0)), .p (.val (.slice none 0 0))]), (4, [.p (eI r13.fRoot.fKind), .p (eI r13.fRoot.fOp), .p (eS r13.fRoot.fName), .p (eS r13.fRoot.fKey), .p (eI r13.fRoot.fValue.fKind), .p (eI r13.fRoot.fValue.fNum), .p (eS r13.fRoot.fValue.fStr), .p (eL eTValue r13.fRoot.fValue.fItems), .p (eL eS r13.fRoot.fValue.fKeys), .p (eL eTExpr r13.fRoot.fKids), .p (eI r13.fRoot.fAt), .vec 49 1 ((r13.fNames ++ ([([] : Bytes)])).map eS), .vec 54 1 ((r13.fStep ++ [false]).map eB), .p (eL eTExpr r13.fKids)])]) ([(4, [.p (eI r13.fRoot.fKind), .p (eI r13.fRoot.fOp), .p (eS r13.fRoot.fName), .p (eS r13.fRoot.fKey), .p (eI r13.fRoot.fValue.fKind), .p (eI r13.fRoot.fValue.fNum), .p (eS r13.fRoot.fValue.fStr), .p (eL eTValue r13.fRoot.fValue.fItems), .p (eL eS r13.fRoot.fValue.fKeys), .p (eL eTExpr r13.fRoot.fKids), .p (eI r13.fRoot.fAt), .vec 49 1 ((r13.fNames ++ ([([] : Bytes)])).map eS), .vec 54 1 ((r13.fStep ++ [false]).map eB), .vec 63 11 ((r13.fKids ++ [(lat e_0.fKids 1)]).map eTExpr)]), (1, [.p (eI e_0.fKind), .p (eI e_0.fOp), .p (eS e_0.fName), .p (eS e_0.fKey), .p (eI e_0.fValue.fKind), .p (eI e_0.fValue.fNum), .p (eS e_0.fValue.fStr), .p (eL eTValue e_0.fValue.fItems), .p (eL eS e_0.fValue.fKeys), .p (eL eTExpr e_0.fKids), .p (eI e_0.fAt)]), (2, [.p (eI 0), .p (eI 0), .p (eS ([] : Bytes)), .p (eS ([] : Bytes)), .p (eI 0), .p (eI 0), .p (eS ([] : Bytes)), .p (.val (.slice none 0 0)), .p (.val (.slice none 0 0)), .p (.val (.slice none 0 0)), .p (eI 0), .p (.val (.slice none 0 0)), .p (.val (.slice none 0 0)), .p (.val (.slice none 0 0))]), (4, [.p (eI r13.fRoot.fKind), .p (eI r13.fRoot.fOp), .p (eS r13.fRoot.fName), .p (eS r13.fRoot.fKey), .p (eI r13.fRoot.fValue.fKind), .p (eI r13.fRoot.fValue.fNum), .p (eS r13.fRoot.fValue.fStr), .p (eL eTValue r13.fRoot.fValue.fItems), .p (eL eS r13.fRoot.fValue.fKeys), .p (eL eTExpr r13.fRoot.fKids), .p (eI r13.fRoot.fAt), .vec 49 1 ((r13.fNames ++ ([([] : Bytes)])).map eS), .vec 54 1 ((r13.fStep ++ [false]).map eB), .p (eL eTExpr r13.fKids)])]))⟩ rfl rfl rfl ⟨rfl, rfl, rfl, trivial⟩ (lt2 ⟨rfl, rfl, rfl, trivial⟩ ⟨rfl, rfl, rfl, trivial⟩) rfl rfl rfl rfl ?_
     refine ds_pure (fun _ => .ptr 4 13) rfl rfl rfl (all3 rfl rfl (fun _ => rfl)) (lt2 rfl rfl) (stg_no rfl (stg_yes [(4, _)] ⟨.inl rfl, trivial⟩ (fun sl hsl K hK => one_op rfl (ok_fieldAddrP rfl rfl rfl rfl rfl rfl rfl rfl (hsl _ _ rfl) hK)) (stg_yes [(4, _)] ⟨.inl rfl, trivial⟩ (fun sl hsl K hK => one_op rfl (ok_fieldAddrP rfl rfl rfl rfl rfl rfl rfl rfl (hsl _ _ rfl) hK)) stg_nil))) ?_
     refine ds_pure (by3 (.vec 102002 11 (r13.fKids.map eTExpr)) (.p (eL eTExpr r13.fKids)) (.p (eL eTExpr r13.fKids))) rfl rfl rfl (all3 rfl rfl (fun _ => rfl)) (lt2 rfl rfl) (stg_no rfl (stg_no rfl (stg_yes [(56, _)] ⟨.inr ⟨0, _, rfl, rfl, rfl⟩, trivial⟩ (fun sl hsl K hK => one_op rfl (ok_loadP1 rfl rfl rfl rfl rfl (hsl _ _ rfl) rfl rfl hK)) stg_nil))) ?_
     refine ds_pure (fun _ => .ptr 1 9) rfl rfl rfl (all3 rfl rfl (fun _ => rfl)) (lt2 rfl rfl) (stg_no rfl (stg_yes [(1, _)] ⟨.inl rfl, trivial⟩ (fun sl hsl K hK => one_op rfl (ok_fieldAddrP rfl rfl rfl rfl rfl rfl rfl rfl (hsl _ _ rfl) hK)) (stg_yes [(1, _)] ⟨.inl rfl, trivial⟩ (fun sl hsl K hK => one_op rfl (ok_fieldAddrP rfl rfl rfl rfl rfl rfl rfl rfl (hsl _ _ rfl) hK)) stg_nil))) ?_
     refine ds_pure (fun _ => .p (eL eTExpr e_0.fKids)) rfl rfl rfl (all3 rfl rfl (fun _ => rfl)) (lt2 rfl rfl) (stg_no rfl (stg_yes [(58, _)] ⟨.inr ⟨2, _, rfl, rfl, rfl⟩, trivial⟩ (fun sl hsl K hK => one_op rfl (ok_loadP1 rfl rfl rfl rfl rfl (hsl _ _ rfl) rfl rfl hK)) (stg_yes [(58, _)] ⟨.inr ⟨2, _, rfl, rfl, rfl⟩, trivial⟩ (fun sl hsl K hK => one_op rfl (ok_loadP1 rfl rfl rfl rfl rfl (hsl _ _ rfl) rfl rfl hK)) stg_nil))) ?_
     refine ds_pure (fun _ => .rptr (TExpr.cs (lat e_0.fKids 1))) rfl rfl rfl (all3 rfl rfl (fun _ => rfl)) (lt2 rfl rfl) (stg_no rfl (stg_yes [(59, _)] ⟨.inr ⟨3, _, rfl, rfl, rfl⟩, trivial⟩ (fun sl hsl K hK => one_op rfl (op_at (f := eTExpr) (l := e_0.fKids) TExpr.cs rfl rfl rfl rfl rfl rfl (hsl _ _ rfl) rfl rfl h17 TExpr.cells_eq (fun _ => rfl) hK)) (stg_yes [(59, _)] ⟨.inr ⟨3, _, rfl, rfl, rfl⟩, trivial⟩ (fun sl hsl K hK => one_op rfl (op_at (f := eTExpr) (l := e_0.fKids) TExpr.cs rfl rfl rfl rfl rfl rfl (hsl _ _ rfl) rfl rfl h17 TExpr.cells_eq (fun _ => rfl) hK)) stg_nil))) ?_
     refine ds_pure (fun _ => .p (.agg (TExpr.cs (lat e_0.fKids 1)))) rfl rfl rfl (all3 rfl rfl (fun _ => rfl)) (lt2 rfl rfl) (stg_no rfl (stg_yes [(60, _)] ⟨.inr ⟨4, _, rfl, rfl, rfl⟩, trivial⟩ (fun sl hsl K hK => one_op rfl (ok_loadRA rfl rfl rfl rfl rfl (hsl _ _ rfl) rfl hK)) (stg_yes [(60, _)] ⟨.inr ⟨4, _, rfl, rfl, rfl⟩, trivial⟩ (fun sl hsl K hK => one_op rfl (ok_loadRA rfl rfl rfl rfl rfl (hsl _ _ rfl) rfl hK)) stg_nil))) ?_
     refine ds_pure (fun _ => .p (eL eTExpr [(lat e_0.fKids 1)])) rfl rfl rfl (all3 rfl rfl (fun _ => rfl)) (lt2 rfl rfl) (stg_no rfl (stg_no rfl (stg_yes [(61, _)] ⟨.inr ⟨5, _, rfl, rfl, rfl⟩, trivial⟩ (fun sl hsl K hK => one_op rfl (op_bslice eTExpr [(lat e_0.fKids 1)] rfl rfl rfl rfl rfl rfl (elems_cons (hsl _ _ rfl) rfl elems_nil) rfl rfl rfl rfl rfl rfl (by first | rfl | (simp only [List.map_cons, List.map_nil, TExpr.agg_eq]; done) | (simp only [List.map_cons, List.map_nil, TExpr.agg_eq]; rfl)) hK)) stg_nil))) ?_
     refine ds_imp (fun _ => .vec 63 11 ((r13.fKids ++ [(lat e_0.fKids 1)]).map eTExpr)) [(57, _), (62, _)] rfl ⟨.inr ⟨1, _, rfl, rfl, rfl⟩, .inr ⟨6, _, rfl, rfl, rfl⟩, trivial⟩ rfl rfl (fun _ => rfl) (lt2 (fun h => absurd h (by decide)) (fun _ => rfl)) (fun sl hsl K hK => one_op rfl (op_appV eTExpr r13.fKids [(lat e_0.fKids 1)] rfl rfl rfl rfl rfl rfl rfl rfl (hsl _ _ rfl) rfl rfl (hsl _ _ rfl) rfl (fun x => congrArg List.length (TExpr.cells_eq x)) rfl rfl rfl h18 hK)) ?_
     refine ds_pure (fun _ => .ptr 4 13) rfl rfl rfl (all3 rfl rfl (fun _ => rfl)) (lt2 rfl rfl) (stg_no rfl (stg_yes [(4, _)] ⟨.inl rfl, trivial⟩ (fun sl hsl K hK => one_op rfl (ok_fieldAddrP rfl rfl rfl rfl rfl rfl rfl rfl (hsl _ _ rfl) hK)) (stg_no rfl stg_nil))) ?_
     refine ds_store [(63, _), (64, _)] rfl ⟨.inr ⟨7, _, rfl, rfl, rfl⟩, .inr ⟨8, _, rfl, rfl, rfl⟩, trivial⟩ rfl (fun sl hsl K hK => one_op rfl (ok_store rfl rfl rfl (hsl _ _ rfl) (hsl _ _ rfl) rfl rfl rfl (Nat.le_of_ble_eq_true rfl) hK)) ?_
     refine ds_nil ?_
     refine awp_seq (awp_reg ?_)
     refine ro rfl (ok_loadPA rfl rfl rfl rfl rfl rfl rfl rfl rfl ?_)
     refine ro rfl (ok_store rfl rfl rfl rfl rfl rfl rfl rfl (Nat.le_of_ble_eq_true rfl) ?_)
     refine rn ?_
     refine awp_ret ?_
     (repeat (first | refine uw ?_ | refine uo rfl ?_))
     have e0 := oi h0
     subst e0
     exact retg_mk (ghost_trans (ghost_ren 49 800000 rfl rfl rfl rfl rfl) (ghost_trans (ghost_ren 54 800001 rfl rfl rfl rfl rfl) (ghost_trans (ghost_ren 63 800002 rfl rfl rfl rfl rfl) (ghost_refl _)))) rfl rfl rfl rfl (sr) trivial
    ·replace h0 := if_bf c11 h0
     refine awp_skip (awp_seq (awp_reg ?_))
     refine ro rfl (ok_loadPA rfl rfl rfl rfl rfl rfl rfl rfl rfl ?_)
     refine ro rfl (ok_build rfl rfl rfl rfl rfl rfl rfl rfl rfl ?_)
     refine ro rfl (ok_store rfl rfl rfl rfl rfl rfl rfl rfl (Nat.le_of_ble_eq_true rfl) ?_)
     refine rn ?_
     refine awp_ret ?_
     (repeat (first | refine uw ?_ | refine uo rfl ?_))
     have e0 := oi h0
     subst e0
     exact retg_mk (ghost_refl _) rfl rfl rfl rfl (AV.sub_trans sub_pagg (sub_aggA ⟨sr, sr, sr, sr, sr, sr, sr, sr, sr, sr, sr, AV.sub_nilvec _ _, AV.sub_nilvec _ _, AV.sub_nilvec _ _, trivial⟩)) trivial
   ·skip
    refine awp_reg ?_
    refine ro rfl (ok_fieldAddrP rfl rfl rfl rfl rfl rfl rfl rfl rfl ?_)
    refine ro rfl (ok_loadP1 rfl rfl rfl rfl rfl rfl rfl rfl ?_)
    refine ro rfl (ok_cmp rfl rfl rfl rfl rfl rfl ?_)
    refine ro rfl (ok_move rfl rfl rfl rfl ?_)
    refine gd_D rfl rfl rfl (fun c9 => ?_) (fun c9 => ?_)
    ·replace h1 := if_t c9 h1
     refine gd_tt rfl rfl rfl (dt c9) (ok_fieldAddrP rfl rfl rfl rfl rfl rfl rfl rfl rfl ?_)
     refine gd_tt rfl rfl rfl (dt c9) (ok_loadP1 rfl rfl rfl rfl rfl rfl rfl rfl ?_)
     refine gd_tt rfl rfl rfl (dt c9) (op_lenL (f := eTExpr) (l := e_0.fKids) rfl rfl rfl rfl rfl rfl rfl ?_)
     refine gd_tt rfl rfl rfl (dt c9) (ok_cmp rfl rfl rfl rfl rfl rfl ?_)
     refine ro rfl (ok_pick_true rfl rfl rfl rfl (dt c9) rfl ?_)
     refine rn ?_
     (repeat (first | refine uw ?_ | refine uo rfl ?_))
     have e1 := oi h1
     subst e1
     exact ghost_le (le_mk ⟨er rfl, er rfl, er rfl, trivial⟩ ⟨⟨_, rfl, ⟨sr, sr, sr, sr, sr, sr, sr, sr, sr, sr, sr, trivial⟩⟩, ⟨_, rfl, ⟨sr, sr, sr, sr, sr, sr, sr, sr, sr, sr, sr, sr, sr, sr, trivial⟩⟩, trivial⟩)
    ·replace h1 := if_f c9 h1
     refine gd_tf rfl rfl rfl (df c9) rfl rfl ?_
     refine gd_tf rfl rfl rfl (df c9) rfl rfl ?_
     refine gd_tf rfl rfl rfl (df c9) rfl rfl ?_
     refine gd_tf rfl rfl rfl (df c9) rfl rfl ?_
     refine ro rfl (ok_pick_false rfl rfl rfl rfl (df c9) rfl ?_)
     refine rn ?_
     (repeat (first | refine uw ?_ | refine uo rfl ?_))
     have e1 := oi h1
     subst e1
     exact ghost_le (le_mk ⟨er rfl, er rfl, er rfl, trivial⟩ ⟨⟨_, rfl, ⟨sr, sr, sr, sr, sr, sr, sr, sr, sr, sr, sr, trivial⟩⟩, ⟨_, rfl, ⟨sr, sr, sr, sr, sr, sr, sr, sr, sr, sr, sr, sr, sr, sr, trivial⟩⟩, trivial⟩)
 ·skip
  refine awp_reg ?_
  refine ro rfl (ok_fieldAddrP rfl rfl rfl rfl rfl rfl rfl rfl rfl ?_)
  refine ro rfl (ok_loadP1 rfl rfl rfl rfl rfl rfl rfl rfl ?_)
  refine ro rfl (ok_cmp rfl rfl rfl rfl rfl rfl ?_)
  refine ro rfl (ok_move rfl rfl rfl rfl ?_)
  refine gd_D rfl rfl rfl (fun c1 => ?_) (fun c1 => ?_)
  ·replace h1 := if_t c1 h1
   refine gd_tt rfl rfl rfl (dt c1) (ok_fieldAddrP rfl rfl rfl rfl rfl rfl rfl rfl rfl ?_)
   refine gd_tt rfl rfl rfl (dt c1) (ok_loadP1 rfl rfl rfl rfl rfl rfl rfl rfl ?_)
   refine gd_tt rfl rfl rfl (dt c1) (op_lenL (f := eTExpr) (l := e_0.fKids) rfl rfl rfl rfl rfl rfl rfl ?_)
   refine gd_tt rfl rfl rfl (dt c1) (ok_cmp rfl rfl rfl rfl rfl rfl ?_)
   refine ro rfl (ok_pick_true rfl rfl rfl rfl (dt c1) rfl ?_)
   refine rn ?_
   (repeat (first | refine uw ?_ | refine uo rfl ?_))
   have e1 := oi h1
   subst e1
   exact ghost_le (le_mk ⟨er rfl, er rfl, er rfl, trivial⟩ ⟨⟨_, rfl, ⟨sr, sr, sr, sr, sr, sr, sr, sr, sr, sr, sr, trivial⟩⟩, ⟨_, rfl, ⟨sr, sr, sr, sr, sr, sr, sr, sr, sr, sr, sr, sr, sr, sr, trivial⟩⟩, trivial⟩)
  ·replace h1 := if_f c1 h1
   refine gd_tf rfl rfl rfl (df c1) rfl rfl ?_
   refine gd_tf rfl rfl rfl (df c1) rfl rfl ?_
   refine gd_tf rfl rfl rfl (df c1) rfl rfl ?_
   refine gd_tf rfl rfl rfl (df c1) rfl rfl ?_
   refine ro rfl (ok_pick_false rfl rfl rfl rfl (df c1) rfl ?_)
   refine rn ?_
   (repeat (first | refine uw ?_ | refine uo rfl ?_))
   have e1 := oi h1
   subst e1
   exact ghost_le (le_mk ⟨er rfl, er rfl, er rfl, trivial⟩ ⟨⟨_, rfl, ⟨sr, sr, sr, sr, sr, sr, sr, sr, sr, sr, sr, trivial⟩⟩, ⟨_, rfl, ⟨sr, sr, sr, sr, sr, sr, sr, sr, sr, sr, sr, sr, sr, sr, trivial⟩⟩, trivial⟩)

def ref17_Chain_step (c_0 : TChain) (i_1 : Int) : Option Bool :=
 (
   if i_1 < (c_0.fStep.length : Int) then
    ck ((0 : Int) ≤ i_1 ∧ i_1 < (c_0.fStep.length : Int)) <|
    some (lat c_0.fStep i_1)
   else
    some false
  : Option Bool).bind fun t3 =>
 some t3

set_option maxHeartbeats 4000000 in
theorem ref17_Chain_step_ok (c_0 : TChain) (i_1 : Int) (r : Bool) (h0 : ref17_Chain_step c_0 i_1 = some r) : PCalls Try.prog 50 [.agg (TChain.cs c_0), eI i_1] (· = .p (eB r)) := by
 unfold ref17_Chain_step at h0
 refine pbodyA good Try.func50 rfl rfl rfl fun w0 => ?_
 refine awp_seq (awp_reg ?_)
 refine ro rfl (ok_box rfl rfl rfl rfl rfl ?_)
 refine ro rfl (ok_assign rfl rfl rfl rfl ?_)
 refine rn ?_
 refine awp_seq ?_
 obtain ⟨o5, h1, h0⟩ := bd_cut h0
 refine awp_joinN ⟨[(4, .p (eB o5))], []⟩ ?_ ?_
 ·intro s' hle
  (repeat (first | refine uw ?_ | refine uo rfl ?_))
  refine awp_ghost hle ?_
  refine awp_ret ?_
  (repeat (first | refine uw ?_ | refine uo rfl ?_))
  have e0 := oi h0
  subst e0
  refine reta_mk rfl ?_
  exact sr
 ·skip
  refine awp_reg ?_
  refine ro rfl (ok_move rfl rfl rfl rfl ?_)
  refine ro rfl (ok_fieldAddrP rfl rfl rfl rfl rfl rfl rfl rfl rfl ?_)
  refine ro rfl (ok_loadP1 rfl rfl rfl rfl rfl rfl rfl rfl ?_)
  refine ro rfl (op_lenL (f := eB) (l := c_0.fStep) rfl rfl rfl rfl rfl rfl rfl ?_)
  refine ro rfl (ok_cmp rfl rfl rfl rfl rfl rfl ?_)
  refine ro rfl (ok_move rfl rfl rfl rfl ?_)
  refine gd_D rfl rfl rfl (fun c1 => ?_) (fun c1 => ?_)
  ·replace h1 := if_t c1 h1
   refine gd_tt rfl rfl rfl (dt c1) (ok_fieldAddrP rfl rfl rfl rfl rfl rfl rfl rfl rfl ?_)
   refine gd_tt rfl rfl rfl (dt c1) (ok_loadP1 rfl rfl rfl rfl rfl rfl rfl rfl ?_)
   refine gd_tt rfl rfl rfl (dt c1) (ok_move rfl rfl rfl rfl ?_)
   obtain ⟨h2, h1⟩ := ck_cut h1
   refine gd_tt rfl rfl rfl (dt c1) (op_at (f := eB) (l := c_0.fStep) (fun x => [eB x]) rfl rfl rfl rfl rfl rfl rfl rfl rfl h2 (fun _ => rfl) (fun _ => rfl) ?_)
   refine gd_tt rfl rfl rfl (dt c1) (ok_loadR1 rfl rfl rfl rfl rfl rfl rfl ?_)
   refine ro rfl (ok_pick_true rfl rfl rfl rfl (dt c1) rfl ?_)
   refine ro rfl (ok_assign rfl rfl rfl rfl ?_)
   refine rn ?_
   (repeat (first | refine uw ?_ | refine uo rfl ?_))
   have e1 := oi h1
   subst e1
   exact ghost_le (le_mk ⟨er rfl, trivial⟩ trivial)
  ·replace h1 := if_f c1 h1
   refine gd_tf rfl rfl rfl (df c1) rfl rfl ?_
   refine gd_tf rfl rfl rfl (df c1) rfl rfl ?_
   refine gd_tf rfl rfl rfl (df c1) rfl rfl ?_
   refine gd_tf rfl rfl rfl (df c1) rfl rfl ?_
   refine gd_tf rfl rfl rfl (df c1) rfl rfl ?_
   refine ro rfl (ok_pick_false rfl rfl rfl rfl (df c1) rfl ?_)
   refine ro rfl (ok_assign rfl rfl rfl rfl ?_)
   refine rn ?_
   (repeat (first | refine uw ?_ | refine uo rfl ?_))
   have e1 := oi h1
   subst e1
   exact ghost_le (le_mk ⟨er rfl, trivial⟩ trivial)

def ref17_kind (root_0 : Bytes) : Option Int :=
 if root_0 = ([118, 97, 114] : Bytes) then
  some 1
 else
  if root_0 = ([108, 111, 99, 97, 108] : Bytes) then
   some 2
  else
   if root_0 = ([101, 97, 99, 104] : Bytes) then
    some 6
   else
    if root_0 = ([99, 111, 117, 110, 116] : Bytes) then
     some 7
    else
     if root_0 = ([114, 101, 109, 111, 116, 101] : Bytes) then
      some 8
     else
      if root_0 = ([109, 111, 100, 117, 108, 101] : Bytes) then
       some 5
      else
       if root_0 = ([100, 97, 116, 97] : Bytes) then
        some 9
       else
        some 3

set_option maxHeartbeats 4000000 in
theorem ref17_kind_ok (root_0 : Bytes) (r : Int) (h0 : ref17_kind root_0 = some r) : PCalls Try.prog 51 [eS root_0] (· = .p (eI r)) := by
 unfold ref17_kind at h0
 refine pbodyA good Try.func51 rfl rfl rfl fun w0 => ?_
 refine awp_seq (awp_reg ?_)
 refine ro rfl (ok_assign rfl rfl rfl rfl ?_)
 refine rn ?_
 refine awp_seq (awp_seq (awp_reg ?_))
 refine ro rfl (ok_move rfl rfl rfl rfl ?_)
 refine rn ?_
 refine awp_block (awp_seq (awp_reg ?_))
 refine ro rfl (ok_cmpS rfl rfl rfl rfl rfl rfl ?_)
 refine ro rfl (ok_assign rfl rfl rfl rfl ?_)
 refine rn ?_
 refine wp_ifD rfl (fun c1 => ?_) (fun c1 => ?_)
 ·replace h0 := if_t c1 h0
  refine awp_seq (awp_reg ?_)
  refine ro rfl (ok_assign rfl rfl rfl rfl ?_)
  refine rn ?_
  refine awp_ret ?_
  (repeat (first | refine uw ?_ | refine uo rfl ?_))
  have e0 := oi h0
  subst e0
  refine reta_mk rfl ?_
  exact sr
 ·replace h0 := if_f c1 h0
  refine awp_seq (awp_reg ?_)
  refine ro rfl (ok_cmpS rfl rfl rfl rfl rfl rfl ?_)
  refine ro rfl (ok_assign rfl rfl rfl rfl ?_)
  refine rn ?_
  refine wp_ifD rfl (fun c2 => ?_) (fun c2 => ?_)
  ·replace h0 := if_t c2 h0
   refine awp_seq (awp_reg ?_)
   refine ro rfl (ok_assign rfl rfl rfl rfl ?_)
   refine rn ?_
   refine awp_ret ?_
   (repeat (first | refine uw ?_ | refine uo rfl ?_))
   have e0 := oi h0
   subst e0
   refine reta_mk rfl ?_
   exact sr
  ·replace h0 := if_f c2 h0
   refine awp_seq (awp_reg ?_)
   refine ro rfl (ok_cmpS rfl rfl rfl rfl rfl rfl ?_)
   refine ro rfl (ok_assign rfl rfl rfl rfl ?_)
   refine rn ?_
   refine wp_ifD rfl (fun c3 => ?_) (fun c3 => ?_)
   ·replace h0 := if_t c3 h0
    refine awp_seq (awp_reg ?_)
    refine ro rfl (ok_assign rfl rfl rfl rfl ?_)
    refine rn ?_
    refine awp_ret ?_
    (repeat (first | refine uw ?_ | refine uo rfl ?_))
    have e0 := oi h0
    subst e0
    refine reta_mk rfl ?_
    exact sr
   ·replace h0 := if_f c3 h0
    refine awp_seq (awp_reg ?_)
    refine ro rfl (ok_cmpS rfl rfl rfl rfl rfl rfl ?_)
    refine ro rfl (ok_assign rfl rfl rfl rfl ?_)
    refine rn ?_
    refine wp_ifD rfl (fun c4 => ?_) (fun c4 => ?_)
    ·replace h0 := if_t c4 h0
     refine awp_seq (awp_reg ?_)
     refine ro rfl (ok_assign rfl rfl rfl rfl ?_)
     refine rn ?_
     refine awp_ret ?_
     (repeat (first | refine uw ?_ | refine uo rfl ?_))
     have e0 := oi h0
     subst e0
     refine reta_mk rfl ?_
     exact sr
    ·replace h0 := if_f c4 h0
     refine awp_seq (awp_reg ?_)
     refine ro rfl (ok_cmpS rfl rfl rfl rfl rfl rfl ?_)
     refine ro rfl (ok_assign rfl rfl rfl rfl ?_)
     refine rn ?_
     refine wp_ifD rfl (fun c5 => ?_) (fun c5 => ?_)
     ·replace h0 := if_t c5 h0
      refine awp_seq (awp_reg ?_)
      refine ro rfl (ok_assign rfl rfl rfl rfl ?_)
      refine rn ?_
      refine awp_ret ?_
      (repeat (first | refine uw ?_ | refine uo rfl ?_))
      have e0 := oi h0
      subst e0
      refine reta_mk rfl ?_
      exact sr
     ·replace h0 := if_f c5 h0
      refine awp_seq (awp_reg ?_)
      refine ro rfl (ok_cmpS rfl rfl rfl rfl rfl rfl ?_)
      refine ro rfl (ok_assign rfl rfl rfl rfl ?_)
      refine rn ?_
      refine wp_ifD rfl (fun c6 => ?_) (fun c6 => ?_)
      ·replace h0 := if_t c6 h0
       refine awp_seq (awp_reg ?_)
       refine ro rfl (ok_assign rfl rfl rfl rfl ?_)
       refine rn ?_
       refine awp_ret ?_
       (repeat (first | refine uw ?_ | refine uo rfl ?_))
       have e0 := oi h0
       subst e0
       refine reta_mk rfl ?_
       exact sr
      ·replace h0 := if_f c6 h0
       refine awp_seq (awp_reg ?_)
       refine ro rfl (ok_cmpS rfl rfl rfl rfl rfl rfl ?_)
       refine ro rfl (ok_assign rfl rfl rfl rfl ?_)
       refine rn ?_
       refine wp_ifD rfl (fun c7 => ?_) (fun c7 => ?_)
       ·replace h0 := if_t c7 h0
        refine awp_seq (awp_reg ?_)
        refine ro rfl (ok_assign rfl rfl rfl rfl ?_)
        refine rn ?_
        refine awp_ret ?_
        (repeat (first | refine uw ?_ | refine uo rfl ?_))
        have e0 := oi h0
        subst e0
        refine reta_mk rfl ?_
        exact sr
       ·replace h0 := if_f c7 h0
        refine awp_skip ?_
        (repeat (first | refine uw ?_ | refine uo rfl ?_))
        refine awp_seq (awp_reg ?_)
        refine ro rfl (ok_assign rfl rfl rfl rfl ?_)
        refine rn ?_
        refine awp_ret ?_
        (repeat (first | refine uw ?_ | refine uo rfl ?_))
        have e0 := oi h0
        subst e0
        refine reta_mk rfl ?_
        exact sr

end Go.Ab.R17
