/- Chapter 06. -/
import Derived.Test.YtijgdpmadidpaaaGreatDoorR06a
set_option linter.unusedVariables false
set_option linter.unusedSimpArgs false
set_option linter.unnecessarySimpa false
namespace Go.Ab.R06
open Go.Proofs Go.Ab Go.Ab.RB
attribute [local irreducible] awp rwpL OpOk PCalls OCalls AV.sub

def address_Within (n : Nat) (s_0 : Bytes) (prefix_1 : Bytes) : Option Bool :=
 (address_Parse n s_0).bind fun r1 =>
 if r1.2 = 0 then
  (address_Parse n prefix_1).bind fun r4 =>
  if r4.2 = 0 then
   (
     if (r1.1.fModule.length : Int) = (r4.1.fModule.length : Int) then
      (address_below n r1.1.fModule r4.1.fModule).bind fun r8 =>
      if r8 = true then
       if (r1.1.fData == r4.1.fData) = true then
        if r1.1.fType = r4.1.fType then
         if r1.1.fName = r4.1.fName then
          (address_fits r1.1.fKey r4.1.fKey).bind fun r14 =>
          some r14
         else
          some false
        else
         some false
       else
        some false
      else
       some false
     else
      some false
    : Option Bool).bind fun t16 =>
   some t16
  else
   (address_modulePath n prefix_1).bind fun r17 =>
   (
     if r17.2 = true then
      (address_below n r1.1.fModule r17.1).bind fun r20 =>
      some r20
     else
      some false
    : Option Bool).bind fun t22 =>
   some t22
 else
  some false

set_option maxHeartbeats 4000000 in
theorem address_Within_ok (n : Nat) (s_0 : Bytes) (prefix_1 : Bytes) (r : Bool) (h0 : address_Within n s_0 prefix_1 = some r) : PCalls Tryz.prog 20 [eS s_0, eS prefix_1] (· = .p (eB r)) := by
 unfold address_Within at h0
 refine pbodyA good Tryz.func20 rfl rfl rfl fun w0 => ?_
 refine awp_seq (awp_reg ?_)
 refine ro rfl (ok_assign rfl rfl rfl rfl ?_)
 refine rn ?_
 refine awp_seq (awp_reg ?_)
 refine ro rfl (ok_move rfl rfl rfl rfl ?_)
 obtain ⟨r1, e2, h0⟩ := bd_cut h0
 refine ro rfl (ok_callP (address_Parse_ok _ s_0 _ e2) rfl rfl rfl rfl ⟨sr, trivial⟩ Tryz.call15 rfl ?_)
 refine ro rfl (ok_move rfl rfl rfl rfl ?_)
 refine ro rfl (ok_extract rfl rfl rfl rfl rfl ?_)
 refine ro rfl (ok_extract rfl rfl rfl rfl rfl ?_)
 refine ro rfl (ok_alloc rfl rfl rfl rfl rfl ?_)
 refine ro rfl (ok_store rfl rfl rfl rfl rfl rfl rfl rfl (Nat.le_of_ble_eq_true rfl) ?_)
 refine ro rfl (ok_assign rfl rfl rfl rfl ?_)
 refine rn ?_
 refine awp_seq (awp_seq (awp_reg ?_))
 refine ro rfl (ok_move rfl rfl rfl rfl ?_)
 refine ro rfl (ok_cmp rfl rfl rfl rfl rfl rfl ?_)
 refine rn ?_
 refine wp_ifN rfl (fun c3 => ?_) (fun c3 => ?_)
 ·replace h0 := if_f c3 h0
  refine awp_seq (awp_reg ?_)
  refine ro rfl (ok_assign rfl rfl rfl rfl ?_)
  refine rn ?_
  refine awp_ret ?_
  (repeat (first | refine uw ?_ | refine uo rfl ?_))
  have e0 := oi h0
  subst e0
  refine reta_mk rfl ?_
  exact sr
 ·replace h0 := if_t c3 h0
  refine awp_skip (awp_seq (awp_seq (awp_reg ?_)))
  refine ro rfl (ok_move rfl rfl rfl rfl ?_)
  obtain ⟨r4, e5, h0⟩ := bd_cut h0
  refine ro rfl (ok_callP (address_Parse_ok _ prefix_1 _ e5) rfl rfl rfl rfl ⟨sr, trivial⟩ Tryz.call15 rfl ?_)
  refine ro rfl (ok_move rfl rfl rfl rfl ?_)
  refine ro rfl (ok_extract rfl rfl rfl rfl rfl ?_)
  refine ro rfl (ok_extract rfl rfl rfl rfl rfl ?_)
  refine ro rfl (ok_alloc rfl rfl rfl rfl rfl ?_)
  refine ro rfl (ok_store rfl rfl rfl rfl rfl rfl rfl rfl (Nat.le_of_ble_eq_true rfl) ?_)
  refine ro rfl (ok_assign rfl rfl rfl rfl ?_)
  refine rn ?_
  refine awp_seq (awp_reg ?_)
  refine ro rfl (ok_move rfl rfl rfl rfl ?_)
  refine ro rfl (ok_cmp rfl rfl rfl rfl rfl rfl ?_)
  refine rn ?_
  refine wp_ifD rfl (fun c6 => ?_) (fun c6 => ?_)
  ·replace h0 := if_t c6 h0
   refine awp_seq ?_
   obtain ⟨o25, h1, h0⟩ := bd_cut h0
   refine awp_joinN ⟨[(4, .p (eB o25))], []⟩ ?_ ?_
   ·intro s' hle
    (repeat (first | refine uw ?_ | refine uo rfl ?_))
    refine awp_ghost hle ?_
    refine awp_ret ?_
    (repeat (first | refine uw ?_ | refine uo rfl ?_))
    have e0 := oi h0
    subst e0
    refine reta_mk rfl ?_
    exact sr
   ·skip
    refine awp_reg ?_
    refine ro rfl (ok_fieldAddrP rfl rfl rfl rfl rfl rfl rfl rfl rfl ?_)
    refine ro rfl (ok_loadP1 rfl rfl rfl rfl rfl rfl rfl rfl ?_)
    refine ro rfl (op_lenL (f := eTModuleStep) (l := r1.1.fModule) rfl rfl rfl rfl rfl rfl rfl ?_)
    refine ro rfl (ok_fieldAddrP rfl rfl rfl rfl rfl rfl rfl rfl rfl ?_)
    refine ro rfl (ok_loadP1 rfl rfl rfl rfl rfl rfl rfl rfl ?_)
    refine ro rfl (op_lenL (f := eTModuleStep) (l := r4.1.fModule) rfl rfl rfl rfl rfl rfl rfl ?_)
    refine ro rfl (ok_cmp rfl rfl rfl rfl rfl rfl ?_)
    refine ro rfl (ok_move rfl rfl rfl rfl ?_)
    refine gd_D rfl rfl rfl (fun c7 => ?_) (fun c7 => ?_)
    ·replace h1 := if_t c7 h1
     refine gd_tt rfl rfl rfl (dt c7) (ok_fieldAddrP rfl rfl rfl rfl rfl rfl rfl rfl rfl ?_)
     refine gd_tt rfl rfl rfl (dt c7) (ok_loadP1 rfl rfl rfl rfl rfl rfl rfl rfl ?_)
     refine gd_tt rfl rfl rfl (dt c7) (ok_fieldAddrP rfl rfl rfl rfl rfl rfl rfl rfl rfl ?_)
     refine gd_tt rfl rfl rfl (dt c7) (ok_loadP1 rfl rfl rfl rfl rfl rfl rfl rfl ?_)
     obtain ⟨r8, e9, h1⟩ := bd_cut h1
     refine gd_tt rfl rfl rfl (dt c7) (ok_callP (address_below_ok _ r1.1.fModule r4.1.fModule _ e9) rfl rfl rfl rfl ⟨sr, sr, trivial⟩ Tryz.call46 rfl ?_)
     refine ro rfl (ok_pick_true rfl rfl rfl rfl (dt c7) rfl ?_)
     refine ro rfl (ok_move rfl rfl rfl rfl ?_)
     refine gd_B rfl rfl rfl (fun c10 => ?_) (fun c10 => ?_)
     ·replace h1 := if_t c10 h1
      refine gd_tt rfl rfl rfl (c10) (ok_fieldAddrP rfl rfl rfl rfl rfl rfl rfl rfl rfl ?_)
      refine gd_tt rfl rfl rfl (c10) (ok_loadP1 rfl rfl rfl rfl rfl rfl rfl rfl ?_)
      refine gd_tt rfl rfl rfl (c10) (ok_fieldAddrP rfl rfl rfl rfl rfl rfl rfl rfl rfl ?_)
      refine gd_tt rfl rfl rfl (c10) (ok_loadP1 rfl rfl rfl rfl rfl rfl rfl rfl ?_)
      refine gd_tt rfl rfl rfl (c10) (ok_cmpB rfl rfl rfl rfl rfl rfl rfl rfl ?_)
      refine ro rfl (ok_pick_true rfl rfl rfl rfl (c10) rfl ?_)
      refine ro rfl (ok_move rfl rfl rfl rfl ?_)
      refine gd_B rfl rfl rfl (fun c11 => ?_) (fun c11 => ?_)
      ·replace h1 := if_t c11 h1
       refine gd_tt rfl rfl rfl (c11) (ok_fieldAddrP rfl rfl rfl rfl rfl rfl rfl rfl rfl ?_)
       refine gd_tt rfl rfl rfl (c11) (ok_loadP1 rfl rfl rfl rfl rfl rfl rfl rfl ?_)
       refine gd_tt rfl rfl rfl (c11) (ok_fieldAddrP rfl rfl rfl rfl rfl rfl rfl rfl rfl ?_)
       refine gd_tt rfl rfl rfl (c11) (ok_loadP1 rfl rfl rfl rfl rfl rfl rfl rfl ?_)
       refine gd_tt rfl rfl rfl (c11) (ok_cmpS rfl rfl rfl rfl rfl rfl ?_)
       refine ro rfl (ok_pick_true rfl rfl rfl rfl (c11) rfl ?_)
       refine ro rfl (ok_move rfl rfl rfl rfl ?_)
       refine gd_D rfl rfl rfl (fun c12 => ?_) (fun c12 => ?_)
       ·replace h1 := if_t c12 h1
        refine gd_tt rfl rfl rfl (dt c12) (ok_fieldAddrP rfl rfl rfl rfl rfl rfl rfl rfl rfl ?_)
        refine gd_tt rfl rfl rfl (dt c12) (ok_loadP1 rfl rfl rfl rfl rfl rfl rfl rfl ?_)
        refine gd_tt rfl rfl rfl (dt c12) (ok_fieldAddrP rfl rfl rfl rfl rfl rfl rfl rfl rfl ?_)
        refine gd_tt rfl rfl rfl (dt c12) (ok_loadP1 rfl rfl rfl rfl rfl rfl rfl rfl ?_)
        refine gd_tt rfl rfl rfl (dt c12) (ok_cmpS rfl rfl rfl rfl rfl rfl ?_)
        refine ro rfl (ok_pick_true rfl rfl rfl rfl (dt c12) rfl ?_)
        refine ro rfl (ok_move rfl rfl rfl rfl ?_)
        refine gd_D rfl rfl rfl (fun c13 => ?_) (fun c13 => ?_)
        ·replace h1 := if_t c13 h1
         refine gd_tt rfl rfl rfl (dt c13) (ok_fieldAddrP rfl rfl rfl rfl rfl rfl rfl rfl rfl ?_)
         refine gd_tt rfl rfl rfl (dt c13) (ok_loadPA rfl rfl rfl rfl rfl rfl rfl rfl rfl ?_)
         refine gd_tt rfl rfl rfl (dt c13) (ok_fieldAddrP rfl rfl rfl rfl rfl rfl rfl rfl rfl ?_)
         refine gd_tt rfl rfl rfl (dt c13) (ok_loadPA rfl rfl rfl rfl rfl rfl rfl rfl rfl ?_)
         obtain ⟨r14, e15, h1⟩ := bd_cut h1
         refine gd_tt rfl rfl rfl (dt c13) (ok_callP (address_fits_ok r1.1.fKey r4.1.fKey _ e15) rfl rfl rfl rfl ⟨sr, sr, trivial⟩ Tryz.call47 rfl ?_)
         refine ro rfl (ok_pick_true rfl rfl rfl rfl (dt c13) rfl ?_)
         refine ro rfl (ok_assign rfl rfl rfl rfl ?_)
         refine rn ?_
         (repeat (first | refine uw ?_ | refine uo rfl ?_))
         have e1 := oi h1
         subst e1
         exact ghost_le (le_mk ⟨er rfl, trivial⟩ trivial)
        ·replace h1 := if_f c13 h1
         refine gd_tf rfl rfl rfl (df c13) rfl rfl ?_
         refine gd_tf rfl rfl rfl (df c13) rfl rfl ?_
         refine gd_tf rfl rfl rfl (df c13) rfl rfl ?_
         refine gd_tf rfl rfl rfl (df c13) rfl rfl ?_
         refine gd_tf rfl rfl rfl (df c13) rfl rfl ?_
         refine ro rfl (ok_pick_false rfl rfl rfl rfl (df c13) rfl ?_)
         refine ro rfl (ok_assign rfl rfl rfl rfl ?_)
         refine rn ?_
         (repeat (first | refine uw ?_ | refine uo rfl ?_))
         have e1 := oi h1
         subst e1
         exact ghost_le (le_mk ⟨er rfl, trivial⟩ trivial)
       ·replace h1 := if_f c12 h1
        refine gd_tf rfl rfl rfl (df c12) rfl rfl ?_
        refine gd_tf rfl rfl rfl (df c12) rfl rfl ?_
        refine gd_tf rfl rfl rfl (df c12) rfl rfl ?_
        refine gd_tf rfl rfl rfl (df c12) rfl rfl ?_
        refine gd_tf rfl rfl rfl (df c12) rfl rfl ?_
        refine ro rfl (ok_pick_false rfl rfl rfl rfl (df c12) rfl ?_)
        refine ro rfl (ok_move rfl rfl rfl rfl ?_)
        refine gd_tf rfl rfl rfl (rfl) rfl rfl ?_
        refine gd_tf rfl rfl rfl (rfl) rfl rfl ?_
        refine gd_tf rfl rfl rfl (rfl) rfl rfl ?_
        refine gd_tf rfl rfl rfl (rfl) rfl rfl ?_
        refine gd_tf rfl rfl rfl (rfl) rfl rfl ?_
        refine ro rfl (ok_pick_false rfl rfl rfl rfl (rfl) rfl ?_)
        refine ro rfl (ok_assign rfl rfl rfl rfl ?_)
        refine rn ?_
        (repeat (first | refine uw ?_ | refine uo rfl ?_))
        have e1 := oi h1
        subst e1
        exact ghost_le (le_mk ⟨er rfl, trivial⟩ trivial)
      ·replace h1 := if_bf c11 h1
       refine gd_tf rfl rfl rfl (c11) rfl rfl ?_
       refine gd_tf rfl rfl rfl (c11) rfl rfl ?_
       refine gd_tf rfl rfl rfl (c11) rfl rfl ?_
       refine gd_tf rfl rfl rfl (c11) rfl rfl ?_
       refine gd_tf rfl rfl rfl (c11) rfl rfl ?_
       refine ro rfl (ok_pick_false rfl rfl rfl rfl (c11) rfl ?_)
       refine ro rfl (ok_move rfl rfl rfl rfl ?_)
       refine gd_tf rfl rfl rfl (rfl) rfl rfl ?_
       refine gd_tf rfl rfl rfl (rfl) rfl rfl ?_
       refine gd_tf rfl rfl rfl (rfl) rfl rfl ?_
       refine gd_tf rfl rfl rfl (rfl) rfl rfl ?_
       refine gd_tf rfl rfl rfl (rfl) rfl rfl ?_
       refine ro rfl (ok_pick_false rfl rfl rfl rfl (rfl) rfl ?_)
       refine ro rfl (ok_move rfl rfl rfl rfl ?_)
       refine gd_tf rfl rfl rfl (rfl) rfl rfl ?_
       refine gd_tf rfl rfl rfl (rfl) rfl rfl ?_
       refine gd_tf rfl rfl rfl (rfl) rfl rfl ?_
       refine gd_tf rfl rfl rfl (rfl) rfl rfl ?_
       refine gd_tf rfl rfl rfl (rfl) rfl rfl ?_
       refine ro rfl (ok_pick_false rfl rfl rfl rfl (rfl) rfl ?_)
       refine ro rfl (ok_assign rfl rfl rfl rfl ?_)
       refine rn ?_
       (repeat (first | refine uw ?_ | refine uo rfl ?_))
       have e1 := oi h1
       subst e1
       exact ghost_le (le_mk ⟨er rfl, trivial⟩ trivial)
     ·replace h1 := if_bf c10 h1
      refine gd_tf rfl rfl rfl (c10) rfl rfl ?_
      refine gd_tf rfl rfl rfl (c10) rfl rfl ?_
      refine gd_tf rfl rfl rfl (c10) rfl rfl ?_
      refine gd_tf rfl rfl rfl (c10) rfl rfl ?_
      refine gd_tf rfl rfl rfl (c10) rfl rfl ?_
      refine ro rfl (ok_pick_false rfl rfl rfl rfl (c10) rfl ?_)
      refine ro rfl (ok_move rfl rfl rfl rfl ?_)
      refine gd_tf rfl rfl rfl (rfl) rfl rfl ?_
      refine gd_tf rfl rfl rfl (rfl) rfl rfl ?_
      refine gd_tf rfl rfl rfl (rfl) rfl rfl ?_
      refine gd_tf rfl rfl rfl (rfl) rfl rfl ?_
      refine gd_tf rfl rfl rfl (rfl) rfl rfl ?_
      refine ro rfl (ok_pick_false rfl rfl rfl rfl (rfl) rfl ?_)
      refine ro rfl (ok_move rfl rfl rfl rfl ?_)
      refine gd_tf rfl rfl rfl (rfl) rfl rfl ?_
      refine gd_tf rfl rfl rfl (rfl) rfl rfl ?_
      refine gd_tf rfl rfl rfl (rfl) rfl rfl ?_
      refine gd_tf rfl rfl rfl (rfl) rfl rfl ?_
      refine gd_tf rfl rfl rfl (rfl) rfl rfl ?_
      refine ro rfl (ok_pick_false rfl rfl rfl rfl (rfl) rfl ?_)
      refine ro rfl (ok_move rfl rfl rfl rfl ?_)
      refine gd_tf rfl rfl rfl (rfl) rfl rfl ?_
      refine gd_tf rfl rfl rfl (rfl) rfl rfl ?_
      refine gd_tf rfl rfl rfl (rfl) rfl rfl ?_
      refine gd_tf rfl rfl rfl (rfl) rfl rfl ?_
      refine gd_tf rfl rfl rfl (rfl) rfl rfl ?_
      refine ro rfl (ok_pick_false rfl rfl rfl rfl (rfl) rfl ?_)
      refine ro rfl (ok_assign rfl rfl rfl rfl ?_)
      refine rn ?_
      (repeat (first | refine uw ?_ | refine uo rfl ?_))
      have e1 := oi h1
      subst e1
      exact ghost_le (le_mk ⟨er rfl, trivial⟩ trivial)
    ·replace h1 := if_f c7 h1
     refine gd_tf rfl rfl rfl (df c7) rfl rfl ?_
     refine gd_tf rfl rfl rfl (df c7) rfl rfl ?_
     refine gd_tf rfl rfl rfl (df c7) rfl rfl ?_
     refine gd_tf rfl rfl rfl (df c7) rfl rfl ?_
     refine gd_tf rfl rfl rfl (df c7) rfl rfl ?_
     refine ro rfl (ok_pick_false rfl rfl rfl rfl (df c7) rfl ?_)
     refine ro rfl (ok_move rfl rfl rfl rfl ?_)
     refine gd_tf rfl rfl rfl (rfl) rfl rfl ?_
     refine gd_tf rfl rfl rfl (rfl) rfl rfl ?_
     refine gd_tf rfl rfl rfl (rfl) rfl rfl ?_
     refine gd_tf rfl rfl rfl (rfl) rfl rfl ?_
     refine gd_tf rfl rfl rfl (rfl) rfl rfl ?_
     refine ro rfl (ok_pick_false rfl rfl rfl rfl (rfl) rfl ?_)
     refine ro rfl (ok_move rfl rfl rfl rfl ?_)
     refine gd_tf rfl rfl rfl (rfl) rfl rfl ?_
     refine gd_tf rfl rfl rfl (rfl) rfl rfl ?_
     refine gd_tf rfl rfl rfl (rfl) rfl rfl ?_
     refine gd_tf rfl rfl rfl (rfl) rfl rfl ?_
     refine gd_tf rfl rfl rfl (rfl) rfl rfl ?_
     refine ro rfl (ok_pick_false rfl rfl rfl rfl (rfl) rfl ?_)
     refine ro rfl (ok_move rfl rfl rfl rfl ?_)
     refine gd_tf rfl rfl rfl (rfl) rfl rfl ?_
     refine gd_tf rfl rfl rfl (rfl) rfl rfl ?_
     refine gd_tf rfl rfl rfl (rfl) rfl rfl ?_
     refine gd_tf rfl rfl rfl (rfl) rfl rfl ?_
     refine gd_tf rfl rfl rfl (rfl) rfl rfl ?_
     refine ro rfl (ok_pick_false rfl rfl rfl rfl (rfl) rfl ?_)
     refine ro rfl (ok_move rfl rfl rfl rfl ?_)
     refine gd_tf rfl rfl rfl (rfl) rfl rfl ?_
     refine gd_tf rfl rfl rfl (rfl) rfl rfl ?_
     refine gd_tf rfl rfl rfl (rfl) rfl rfl ?_
     refine gd_tf rfl rfl rfl (rfl) rfl rfl ?_
     refine gd_tf rfl rfl rfl (rfl) rfl rfl ?_
     refine ro rfl (ok_pick_false rfl rfl rfl rfl (rfl) rfl ?_)
     refine ro rfl (ok_assign rfl rfl rfl rfl ?_)
     refine rn ?_
     (repeat (first | refine uw ?_ | refine uo rfl ?_))
     have e1 := oi h1
     subst e1
     exact ghost_le (le_mk ⟨er rfl, trivial⟩ trivial)
  ·replace h0 := if_f c6 h0
   refine awp_skip (awp_seq (awp_reg ?_))
   refine ro rfl (ok_move rfl rfl rfl rfl ?_)
   obtain ⟨r17, e18, h0⟩ := bd_cut h0
   refine ro rfl (ok_callP (address_modulePath_ok _ prefix_1 _ e18) rfl rfl rfl rfl ⟨sr, trivial⟩ Tryz.call48 rfl ?_)
   refine ro rfl (ok_move rfl rfl rfl rfl ?_)
   refine ro rfl (ok_extract rfl rfl rfl rfl rfl ?_)
   refine ro rfl (ok_extract rfl rfl rfl rfl rfl ?_)
   refine ro rfl (ok_assign rfl rfl rfl rfl ?_)
   refine ro rfl (ok_assign rfl rfl rfl rfl ?_)
   refine rn ?_
   refine awp_ghost (ghost_le (t := ⟨[(5, .ptr 5 0), (9, .p (eL eTModuleStep r17.1)), (10, .p (eB r17.2))], [(5, [.p (eL eTModuleStep r1.1.fModule), .p (eB r1.1.fData), .p (eS r1.1.fType), .p (eS r1.1.fName), .p (eI r1.1.fKey.fKind), .p (eI r1.1.fKey.fNum), .p (eS r1.1.fKey.fStr)])]⟩) (le_mk ⟨er rfl, er rfl, er rfl, trivial⟩ ⟨⟨_, rfl, ⟨sr, sr, sr, sr, sr, sr, sr, trivial⟩⟩, trivial⟩)) ?_
   refine awp_seq ?_
   obtain ⟨o27, h1, h0⟩ := bd_cut h0
   refine awp_joinN ⟨[(4, .p (eB o27))], []⟩ ?_ ?_
   ·intro s' hle
    (repeat (first | refine uw ?_ | refine uo rfl ?_))
    refine awp_ghost hle ?_
    refine awp_ret ?_
    (repeat (first | refine uw ?_ | refine uo rfl ?_))
    have e0 := oi h0
    subst e0
    refine reta_mk rfl ?_
    exact sr
   ·skip
    refine awp_reg ?_
    refine ro rfl (ok_move rfl rfl rfl rfl ?_)
    refine ro rfl (ok_move rfl rfl rfl rfl ?_)
    refine gd_B rfl rfl rfl (fun c19 => ?_) (fun c19 => ?_)
    ·replace h1 := if_t c19 h1
     refine gd_tt rfl rfl rfl (c19) (ok_fieldAddrP rfl rfl rfl rfl rfl rfl rfl rfl rfl ?_)
     refine gd_tt rfl rfl rfl (c19) (ok_loadP1 rfl rfl rfl rfl rfl rfl rfl rfl ?_)
     refine gd_tt rfl rfl rfl (c19) (ok_move rfl rfl rfl rfl ?_)
     obtain ⟨r20, e21, h1⟩ := bd_cut h1
     refine gd_tt rfl rfl rfl (c19) (ok_callP (address_below_ok _ r1.1.fModule r17.1 _ e21) rfl rfl rfl rfl ⟨sr, sr, trivial⟩ Tryz.call46 rfl ?_)
     refine ro rfl (ok_pick_true rfl rfl rfl rfl (c19) rfl ?_)
     refine ro rfl (ok_assign rfl rfl rfl rfl ?_)
     refine rn ?_
     (repeat (first | refine uw ?_ | refine uo rfl ?_))
     have e1 := oi h1
     subst e1
     exact ghost_le (le_mk ⟨er rfl, trivial⟩ trivial)
    ·replace h1 := if_bf c19 h1
     refine gd_tf rfl rfl rfl (c19) rfl rfl ?_
     refine gd_tf rfl rfl rfl (c19) rfl rfl ?_
     refine gd_tf rfl rfl rfl (c19) rfl rfl ?_
     refine gd_tf rfl rfl rfl (c19) rfl rfl ?_
     refine ro rfl (ok_pick_false rfl rfl rfl rfl (c19) rfl ?_)
     refine ro rfl (ok_assign rfl rfl rfl rfl ?_)
     refine rn ?_
     (repeat (first | refine uw ?_ | refine uo rfl ?_))
     have e1 := oi h1
     subst e1
     exact ghost_le (le_mk ⟨er rfl, trivial⟩ trivial)

def law06_example : Option TAddress :=
 some (TAddress.mk ([(TModuleStep.mk ([97] : Bytes) (TKey.mk 2 0 ([120] : Bytes)))]) false ([115, 101, 114, 118, 101, 114] : Bytes) ([119, 101, 98] : Bytes) (TKey.mk 1 0 ([] : Bytes)))

set_option maxHeartbeats 4000000 in
theorem law06_example_ok (r : TAddress) (h0 : law06_example = some r) : PCalls Tryz.prog 24 [] (· = .p (.agg (TAddress.cs r))) := by
 unfold law06_example at h0
 refine pbodyA good Tryz.func24 rfl rfl rfl fun w0 => ?_
 refine awp_seq (awp_reg ?_)
 refine ro rfl (ok_alloc rfl rfl rfl rfl rfl ?_)
 refine rn ?_
 refine awp_seq (awp_reg ?_)
 refine ro rfl (ok_build rfl rfl rfl rfl rfl rfl rfl rfl rfl ?_)
 refine ro rfl (ok_build rfl rfl rfl rfl rfl rfl rfl rfl rfl ?_)
 refine ro rfl (op_bslice eTModuleStep [(TModuleStep.mk ([97] : Bytes) (TKey.mk 2 0 ([120] : Bytes)))] rfl rfl rfl rfl rfl rfl rfl rfl rfl rfl rfl rfl rfl (by first | rfl | (simp only [List.map_cons, List.map_nil, TModuleStep.agg_eq]; done) | (simp only [List.map_cons, List.map_nil, TModuleStep.agg_eq]; rfl)) ?_)
 refine ro rfl (ok_build rfl rfl rfl rfl rfl rfl rfl rfl rfl ?_)
 refine ro rfl (ok_build rfl rfl rfl rfl rfl rfl rfl rfl rfl ?_)
 refine ro rfl (ok_store rfl rfl rfl rfl rfl rfl rfl rfl (Nat.le_of_ble_eq_true rfl) ?_)
 refine rn ?_
 refine awp_ret ?_
 (repeat (first | refine uw ?_ | refine uo rfl ?_))
 have e0 := oi h0
 subst e0
 refine reta_mk rfl ?_
 exact sr

def law06_awake (n : Nat) : Option Bool :=
 (address_Parse n ([109, 111, 100, 117, 108, 101, 46, 97, 91, 34, 120, 34, 93, 46, 115, 101, 114, 118, 101, 114, 46, 119, 101, 98, 91, 48, 93] : Bytes)).bind fun r1 =>
 (address_Static n ([109, 111, 100, 117, 108, 101, 46, 97, 91, 34, 120, 34, 93, 46, 115, 101, 114, 118, 101, 114, 46, 119, 101, 98, 91, 48, 93] : Bytes)).bind fun r3 =>
 (address_Parse n ([97, 46, 98, 91, 48, 49, 93] : Bytes)).bind fun r5 =>
 (
   (law06_example).bind fun r7 =>
   (address_Format n r7).bind fun r9 =>
   if r9 = ([109, 111, 100, 117, 108, 101, 46, 97, 91, 34, 120, 34, 93, 46, 115, 101, 114, 118, 101, 114, 46, 119, 101, 98, 91, 48, 93] : Bytes) then
    if r1.2 = 0 then
     (law06_example).bind fun r13 =>
     (law06_Same n r1.1 r13).bind fun r15 =>
     if r15 = true then
      if r3.1 = ([109, 111, 100, 117, 108, 101, 46, 97, 46, 115, 101, 114, 118, 101, 114, 46, 119, 101, 98] : Bytes) then
       if r3.2 = 0 then
        if r5.2 = 2 then
         (address_Within n ([109, 111, 100, 117, 108, 101, 46, 97, 91, 34, 120, 34, 93, 46, 115, 101, 114, 118, 101, 114, 46, 119, 101, 98, 91, 48, 93] : Bytes) ([109, 111, 100, 117, 108, 101, 46, 97] : Bytes)).bind fun r21 =>
         if r21 = true then
          (address_Within n ([109, 111, 100, 117, 108, 101, 46, 97, 91, 34, 120, 34, 93, 46, 115, 101, 114, 118, 101, 114, 46, 119, 101, 98, 91, 48, 93] : Bytes) ([115, 101, 114, 118, 101, 114, 46, 119, 101, 98] : Bytes)).bind fun r24 =>
          if (!r24) = true then
           (address_Identifier n ([97, 95, 49] : Bytes)).bind fun r27 =>
           if r27 = true then
            (address_Identifier n ([49, 97] : Bytes)).bind fun r30 =>
            if (!r30) = true then
             (address_Check n (TAddress.mk [] false ([109, 111, 100, 117, 108, 101] : Bytes) ([97] : Bytes) (TKey.mk 0 0 ([] : Bytes)))).bind fun r33 =>
             some (decide (r33 = 7))
            else
             some false
           else
            some false
          else
           some false
         else
          some false
        else
         some false
       else
        some false
      else
       some false
     else
      some false
    else
     some false
   else
    some false
  : Option Bool).bind fun t35 =>
 some t35

set_option maxHeartbeats 4000000 in
theorem law06_awake_ok (n : Nat) (r : Bool) (h0 : law06_awake n = some r) : PCalls Tryz.prog 8 [] (· = .p (eB r)) := by
 unfold law06_awake at h0
 refine pbodyA good Tryz.func8 rfl rfl rfl fun w0 => ?_
 refine awp_seq (awp_reg ?_)
 refine ro rfl (ok_assign rfl rfl rfl rfl ?_)
 refine rn ?_
 refine awp_seq (awp_reg ?_)
 refine ro rfl (ok_assign rfl rfl rfl rfl ?_)
 refine rn ?_
 refine awp_seq (awp_reg ?_)
 refine ro rfl (ok_move rfl rfl rfl rfl ?_)
 obtain ⟨r1, e2, h0⟩ := bd_cut h0
 refine ro rfl (ok_callP (address_Parse_ok _ ([109, 111, 100, 117, 108, 101, 46, 97, 91, 34, 120, 34, 93, 46, 115, 101, 114, 118, 101, 114, 46, 119, 101, 98, 91, 48, 93] : Bytes) _ e2) rfl rfl rfl rfl ⟨sr, trivial⟩ Tryz.call15 rfl ?_)
 refine ro rfl (ok_move rfl rfl rfl rfl ?_)
 refine ro rfl (ok_extract rfl rfl rfl rfl rfl ?_)
 refine ro rfl (ok_extract rfl rfl rfl rfl rfl ?_)
 refine ro rfl (ok_alloc rfl rfl rfl rfl rfl ?_)
 refine ro rfl (ok_store rfl rfl rfl rfl rfl rfl rfl rfl (Nat.le_of_ble_eq_true rfl) ?_)
 refine ro rfl (ok_assign rfl rfl rfl rfl ?_)
 refine rn ?_
 refine awp_seq (awp_reg ?_)
 refine ro rfl (ok_move rfl rfl rfl rfl ?_)
 obtain ⟨r3, e4, h0⟩ := bd_cut h0
 refine ro rfl (ok_callP (address_Static_ok _ ([109, 111, 100, 117, 108, 101, 46, 97, 91, 34, 120, 34, 93, 46, 115, 101, 114, 118, 101, 114, 46, 119, 101, 98, 91, 48, 93] : Bytes) _ e4) rfl rfl rfl rfl ⟨sr, trivial⟩ Tryz.call17 rfl ?_)
 refine ro rfl (ok_move rfl rfl rfl rfl ?_)
 refine ro rfl (ok_extract rfl rfl rfl rfl rfl ?_)
 refine ro rfl (ok_extract rfl rfl rfl rfl rfl ?_)
 refine ro rfl (ok_assign rfl rfl rfl rfl ?_)
 refine ro rfl (ok_assign rfl rfl rfl rfl ?_)
 refine rn ?_
 refine awp_seq (awp_reg ?_)
 obtain ⟨r5, e6, h0⟩ := bd_cut h0
 refine ro rfl (ok_callP (address_Parse_ok _ ([97, 46, 98, 91, 48, 49, 93] : Bytes) _ e6) rfl rfl rfl rfl ⟨sr, trivial⟩ Tryz.call15 rfl ?_)
 refine ro rfl (ok_move rfl rfl rfl rfl ?_)
 refine ro rfl (ok_extract rfl rfl rfl rfl rfl ?_)
 refine ro rfl (ok_extract rfl rfl rfl rfl rfl ?_)
 refine ro rfl (ok_alloc rfl rfl rfl rfl rfl ?_)
 refine ro rfl (ok_store rfl rfl rfl rfl rfl rfl rfl rfl (Nat.le_of_ble_eq_true rfl) ?_)
 refine ro rfl (ok_assign rfl rfl rfl rfl ?_)
 refine rn ?_
 refine awp_seq ?_
 obtain ⟨o37, h1, h0⟩ := bd_cut h0
 refine awp_joinN ⟨[(0, .p (eB o37))], []⟩ ?_ ?_
 ·intro s' hle
  (repeat (first | refine uw ?_ | refine uo rfl ?_))
  refine awp_ghost hle ?_
  refine awp_ret ?_
  (repeat (first | refine uw ?_ | refine uo rfl ?_))
  have e0 := oi h0
  subst e0
  refine reta_mk rfl ?_
  exact sr
 ·skip
  obtain ⟨r7, e8, h1⟩ := bd_cut h1
  obtain ⟨r9, e10, h1⟩ := bd_cut h1
  refine awp_byD (p := r9 = ([109, 111, 100, 117, 108, 101, 46, 97, 91, 34, 120, 34, 93, 46, 115, 101, 114, 118, 101, 114, 46, 119, 101, 98, 91, 48, 93] : Bytes)) (fun c11 => ?_) (fun c11 => ?_)
  ·replace h1 := if_t c11 h1
   refine awp_byD (p := r1.2 = 0) (fun c12 => ?_) (fun c12 => ?_)
   ·replace h1 := if_t c12 h1
    obtain ⟨r13, e14, h1⟩ := bd_cut h1
    obtain ⟨r15, e16, h1⟩ := bd_cut h1
    refine awp_byB (b := r15) (fun c17 => ?_) (fun c17 => ?_)
    ·replace h1 := if_t c17 h1
     refine awp_byD (p := r3.1 = ([109, 111, 100, 117, 108, 101, 46, 97, 46, 115, 101, 114, 118, 101, 114, 46, 119, 101, 98] : Bytes)) (fun c18 => ?_) (fun c18 => ?_)
     ·replace h1 := if_t c18 h1
      refine awp_byD (p := r3.2 = 0) (fun c19 => ?_) (fun c19 => ?_)
      ·replace h1 := if_t c19 h1
       refine awp_byD (p := r5.2 = 2) (fun c20 => ?_) (fun c20 => ?_)
       ·replace h1 := if_t c20 h1
        obtain ⟨r21, e22, h1⟩ := bd_cut h1
        refine awp_byB (b := r21) (fun c23 => ?_) (fun c23 => ?_)
        ·replace h1 := if_t c23 h1
         obtain ⟨r24, e25, h1⟩ := bd_cut h1
         refine awp_byB (b := !r24) (fun c26 => ?_) (fun c26 => ?_)
         ·replace h1 := if_t c26 h1
          obtain ⟨r27, e28, h1⟩ := bd_cut h1
          refine awp_byB (b := r27) (fun c29 => ?_) (fun c29 => ?_)
          ·replace h1 := if_t c29 h1
           obtain ⟨r30, e31, h1⟩ := bd_cut h1
           refine awp_byB (b := !r30) (fun c32 => ?_) (fun c32 => ?_)
           ·replace h1 := if_t c32 h1
            obtain ⟨r33, e34, h1⟩ := bd_cut h1
            refine awp_drawQ [(1, .p (eS ([109, 111, 100, 117, 108, 101, 46, 97, 91, 34, 120, 34, 93, 46, 115, 101, 114, 118, 101, 114, 46, 119, 101, 98, 91, 48, 93] : Bytes))), (2, .ptr 2 0), (3, .p (eI r1.2)), (4, .p (eS r3.1)), (5, .p (eI r3.2)), (7, .p (eI r5.2))] rfl ⟨rfl, rfl, rfl, rfl, rfl, rfl, trivial⟩ rfl ?_
            refine dq_cons (.p (.agg (TAddress.cs r7))) [] trivial (fun sl hsl K hK => one_op rfl (ok_callP (law06_example_ok  _ e8) rfl rfl rfl args_nil trivial Tryz.call24 rfl hK)) rfl rfl rfl ?_
            refine dq_cons (.p (eS r9)) [(22, _)] ⟨.inr ⟨0, rfl, rfl⟩, trivial⟩ (fun sl hsl K hK => one_op rfl (ok_callP (address_Format_ok _ r7 _ e10) rfl rfl rfl (args_cons (hsl _ _ rfl) args_nil) ⟨sr, trivial⟩ Tryz.call11 rfl hK)) rfl rfl rfl ?_
            refine dq_cons (.p (eS ([109, 111, 100, 117, 108, 101, 46, 97, 91, 34, 120, 34, 93, 46, 115, 101, 114, 118, 101, 114, 46, 119, 101, 98, 91, 48, 93] : Bytes))) [(1, _)] ⟨.inl rfl, trivial⟩ (fun sl hsl K hK => one_op rfl (ok_move rfl rfl rfl (hsl _ _ rfl) hK)) rfl rfl rfl ?_
            refine dq_cons (.p (eB (decide (r9 = ([109, 111, 100, 117, 108, 101, 46, 97, 91, 34, 120, 34, 93, 46, 115, 101, 114, 118, 101, 114, 46, 119, 101, 98, 91, 48, 93] : Bytes))))) [(23, _), (24, _)] ⟨.inr ⟨1, rfl, rfl⟩, .inr ⟨2, rfl, rfl⟩, trivial⟩ (fun sl hsl K hK => one_op rfl (ok_cmpS rfl rfl rfl (hsl _ _ rfl) (hsl _ _ rfl) rfl hK)) rfl rfl rfl ?_
            refine dq_cons (.p (eB (decide (r9 = ([109, 111, 100, 117, 108, 101, 46, 97, 91, 34, 120, 34, 93, 46, 115, 101, 114, 118, 101, 114, 46, 119, 101, 98, 91, 48, 93] : Bytes))))) [(25, _)] ⟨.inr ⟨3, rfl, rfl⟩, trivial⟩ (fun sl hsl K hK => one_op rfl (ok_move rfl rfl rfl (hsl _ _ rfl) hK)) rfl rfl rfl ?_
            refine dq_cons (.p (eI r1.2)) [(3, _), (26, _)] ⟨.inl rfl, .inr ⟨4, rfl, rfl⟩, trivial⟩ (fun sl hsl K hK => one_yes (ok_move rfl rfl rfl (hsl _ _ rfl) hK) rfl rfl (hsl _ _ rfl) (dt c11)) rfl rfl rfl ?_
            refine dq_cons (.p (eB (decide (r1.2 = 0)))) [(26, _), (27, _)] ⟨.inr ⟨4, rfl, rfl⟩, .inr ⟨5, rfl, rfl⟩, trivial⟩ (fun sl hsl K hK => one_yes (ok_cmp rfl rfl rfl (hsl _ _ rfl) rfl rfl hK) rfl rfl (hsl _ _ rfl) (dt c11)) rfl rfl rfl ?_
            refine dq_cons (.p (eB (decide (r1.2 = 0)))) [(26, _), (28, _)] ⟨.inr ⟨4, rfl, rfl⟩, .inr ⟨6, rfl, rfl⟩, trivial⟩ (fun sl hsl K hK => one_op rfl (ok_pick_true rfl rfl rfl (hsl _ _ rfl) (dt c11) (hsl _ _ rfl) hK)) rfl rfl rfl ?_
            refine dq_cons (.p (eB (decide (r1.2 = 0)))) [(29, _)] ⟨.inr ⟨7, rfl, rfl⟩, trivial⟩ (fun sl hsl K hK => one_op rfl (ok_move rfl rfl rfl (hsl _ _ rfl) hK)) rfl rfl rfl ?_
            refine dq_cons (.p (.agg (TAddress.cs r1.1))) [(2, _), (30, _)] ⟨.inl rfl, .inr ⟨8, rfl, rfl⟩, trivial⟩ (fun sl hsl K hK => one_yes (ok_loadPA rfl rfl rfl rfl rfl (hsl _ _ rfl) rfl rfl rfl hK) rfl rfl (hsl _ _ rfl) (dt c12)) rfl rfl rfl ?_
            refine dq_cons (.p (.agg (TAddress.cs r13))) [(30, _)] ⟨.inr ⟨8, rfl, rfl⟩, trivial⟩ (fun sl hsl K hK => one_yes (ok_callP (law06_example_ok  _ e14) rfl rfl rfl args_nil trivial Tryz.call24 rfl hK) rfl rfl (hsl _ _ rfl) (dt c12)) rfl rfl rfl ?_
            refine dq_cons (.p (eB r15)) [(30, _), (31, _), (32, _)] ⟨.inr ⟨8, rfl, rfl⟩, .inr ⟨9, rfl, rfl⟩, .inr ⟨10, rfl, rfl⟩, trivial⟩ (fun sl hsl K hK => one_yes (ok_callP (law06_Same_ok _ r1.1 r13 _ e16) rfl rfl rfl (args_cons (hsl _ _ rfl) (args_cons (hsl _ _ rfl) args_nil)) ⟨sr, sr, trivial⟩ Tryz.call19 rfl hK) rfl rfl (hsl _ _ rfl) (dt c12)) rfl rfl rfl ?_
            refine dq_cons (.p (eB r15)) [(30, _), (33, _)] ⟨.inr ⟨8, rfl, rfl⟩, .inr ⟨11, rfl, rfl⟩, trivial⟩ (fun sl hsl K hK => one_op rfl (ok_pick_true rfl rfl rfl (hsl _ _ rfl) (dt c12) (hsl _ _ rfl) hK)) rfl rfl rfl ?_
            refine dq_cons (.p (eB r15)) [(34, _)] ⟨.inr ⟨12, rfl, rfl⟩, trivial⟩ (fun sl hsl K hK => one_op rfl (ok_move rfl rfl rfl (hsl _ _ rfl) hK)) rfl rfl rfl ?_
            refine dq_cons (.p (eS r3.1)) [(4, _), (35, _)] ⟨.inl rfl, .inr ⟨13, rfl, rfl⟩, trivial⟩ (fun sl hsl K hK => one_yes (ok_move rfl rfl rfl (hsl _ _ rfl) hK) rfl rfl (hsl _ _ rfl) (c17)) rfl rfl rfl ?_
            refine dq_cons (.p (eB (decide (r3.1 = ([109, 111, 100, 117, 108, 101, 46, 97, 46, 115, 101, 114, 118, 101, 114, 46, 119, 101, 98] : Bytes))))) [(35, _), (36, _)] ⟨.inr ⟨13, rfl, rfl⟩, .inr ⟨14, rfl, rfl⟩, trivial⟩ (fun sl hsl K hK => one_yes (ok_cmpS rfl rfl rfl (hsl _ _ rfl) rfl rfl hK) rfl rfl (hsl _ _ rfl) (c17)) rfl rfl rfl ?_
            refine dq_cons (.p (eB (decide (r3.1 = ([109, 111, 100, 117, 108, 101, 46, 97, 46, 115, 101, 114, 118, 101, 114, 46, 119, 101, 98] : Bytes))))) [(35, _), (37, _)] ⟨.inr ⟨13, rfl, rfl⟩, .inr ⟨15, rfl, rfl⟩, trivial⟩ (fun sl hsl K hK => one_op rfl (ok_pick_true rfl rfl rfl (hsl _ _ rfl) (c17) (hsl _ _ rfl) hK)) rfl rfl rfl ?_
            refine dq_cons (.p (eB (decide (r3.1 = ([109, 111, 100, 117, 108, 101, 46, 97, 46, 115, 101, 114, 118, 101, 114, 46, 119, 101, 98] : Bytes))))) [(38, _)] ⟨.inr ⟨16, rfl, rfl⟩, trivial⟩ (fun sl hsl K hK => one_op rfl (ok_move rfl rfl rfl (hsl _ _ rfl) hK)) rfl rfl rfl ?_
            refine dq_cons (.p (eI r3.2)) [(5, _), (39, _)] ⟨.inl rfl, .inr ⟨17, rfl, rfl⟩, trivial⟩ (fun sl hsl K hK => one_yes (ok_move rfl rfl rfl (hsl _ _ rfl) hK) rfl rfl (hsl _ _ rfl) (dt c18)) rfl rfl rfl ?_
            refine dq_cons (.p (eB (decide (r3.2 = 0)))) [(39, _), (40, _)] ⟨.inr ⟨17, rfl, rfl⟩, .inr ⟨18, rfl, rfl⟩, trivial⟩ (fun sl hsl K hK => one_yes (ok_cmp rfl rfl rfl (hsl _ _ rfl) rfl rfl hK) rfl rfl (hsl _ _ rfl) (dt c18)) rfl rfl rfl ?_
            refine dq_cons (.p (eB (decide (r3.2 = 0)))) [(39, _), (41, _)] ⟨.inr ⟨17, rfl, rfl⟩, .inr ⟨19, rfl, rfl⟩, trivial⟩ (fun sl hsl K hK => one_op rfl (ok_pick_true rfl rfl rfl (hsl _ _ rfl) (dt c18) (hsl _ _ rfl) hK)) rfl rfl rfl ?_
            refine dq_cons (.p (eB (decide (r3.2 = 0)))) [(42, _)] ⟨.inr ⟨20, rfl, rfl⟩, trivial⟩ (fun sl hsl K hK => one_op rfl (ok_move rfl rfl rfl (hsl _ _ rfl) hK)) rfl rfl rfl ?_
            refine dq_cons (.p (eI r5.2)) [(7, _), (43, _)] ⟨.inl rfl, .inr ⟨21, rfl, rfl⟩, trivial⟩ (fun sl hsl K hK => one_yes (ok_move rfl rfl rfl (hsl _ _ rfl) hK) rfl rfl (hsl _ _ rfl) (dt c19)) rfl rfl rfl ?_
            refine dq_cons (.p (eB (decide (r5.2 = 2)))) [(43, _), (44, _)] ⟨.inr ⟨21, rfl, rfl⟩, .inr ⟨22, rfl, rfl⟩, trivial⟩ (fun sl hsl K hK => one_yes (ok_cmp rfl rfl rfl (hsl _ _ rfl) rfl rfl hK) rfl rfl (hsl _ _ rfl) (dt c19)) rfl rfl rfl ?_
            refine dq_cons (.p (eB (decide (r5.2 = 2)))) [(43, _), (45, _)] ⟨.inr ⟨21, rfl, rfl⟩, .inr ⟨23, rfl, rfl⟩, trivial⟩ (fun sl hsl K hK => one_op rfl (ok_pick_true rfl rfl rfl (hsl _ _ rfl) (dt c19) (hsl _ _ rfl) hK)) rfl rfl rfl ?_
            refine dq_cons (.p (eB (decide (r5.2 = 2)))) [(46, _)] ⟨.inr ⟨24, rfl, rfl⟩, trivial⟩ (fun sl hsl K hK => one_op rfl (ok_move rfl rfl rfl (hsl _ _ rfl) hK)) rfl rfl rfl ?_
            refine dq_cons (.p (eS ([109, 111, 100, 117, 108, 101, 46, 97, 91, 34, 120, 34, 93, 46, 115, 101, 114, 118, 101, 114, 46, 119, 101, 98, 91, 48, 93] : Bytes))) [(1, _), (47, _)] ⟨.inl rfl, .inr ⟨25, rfl, rfl⟩, trivial⟩ (fun sl hsl K hK => one_yes (ok_move rfl rfl rfl (hsl _ _ rfl) hK) rfl rfl (hsl _ _ rfl) (dt c20)) rfl rfl rfl ?_
            refine dq_cons (.p (eB r21)) [(47, _), (48, _)] ⟨.inr ⟨25, rfl, rfl⟩, .inr ⟨26, rfl, rfl⟩, trivial⟩ (fun sl hsl K hK => one_yes (ok_callP (address_Within_ok _ ([109, 111, 100, 117, 108, 101, 46, 97, 91, 34, 120, 34, 93, 46, 115, 101, 114, 118, 101, 114, 46, 119, 101, 98, 91, 48, 93] : Bytes) ([109, 111, 100, 117, 108, 101, 46, 97] : Bytes) _ e22) rfl rfl rfl (args_cons (hsl _ _ rfl) (args_cons rfl args_nil)) ⟨sr, sr, trivial⟩ Tryz.call20 rfl hK) rfl rfl (hsl _ _ rfl) (dt c20)) rfl rfl rfl ?_
            refine dq_cons (.p (eB r21)) [(47, _), (49, _)] ⟨.inr ⟨25, rfl, rfl⟩, .inr ⟨27, rfl, rfl⟩, trivial⟩ (fun sl hsl K hK => one_op rfl (ok_pick_true rfl rfl rfl (hsl _ _ rfl) (dt c20) (hsl _ _ rfl) hK)) rfl rfl rfl ?_
            refine dq_cons (.p (eB r21)) [(50, _)] ⟨.inr ⟨28, rfl, rfl⟩, trivial⟩ (fun sl hsl K hK => one_op rfl (ok_move rfl rfl rfl (hsl _ _ rfl) hK)) rfl rfl rfl ?_
            refine dq_cons (.p (eS ([109, 111, 100, 117, 108, 101, 46, 97, 91, 34, 120, 34, 93, 46, 115, 101, 114, 118, 101, 114, 46, 119, 101, 98, 91, 48, 93] : Bytes))) [(1, _), (51, _)] ⟨.inl rfl, .inr ⟨29, rfl, rfl⟩, trivial⟩ (fun sl hsl K hK => one_yes (ok_move rfl rfl rfl (hsl _ _ rfl) hK) rfl rfl (hsl _ _ rfl) (c23)) rfl rfl rfl ?_
            refine dq_cons (.p (eB r24)) [(51, _), (52, _)] ⟨.inr ⟨29, rfl, rfl⟩, .inr ⟨30, rfl, rfl⟩, trivial⟩ (fun sl hsl K hK => one_yes (ok_callP (address_Within_ok _ ([109, 111, 100, 117, 108, 101, 46, 97, 91, 34, 120, 34, 93, 46, 115, 101, 114, 118, 101, 114, 46, 119, 101, 98, 91, 48, 93] : Bytes) ([115, 101, 114, 118, 101, 114, 46, 119, 101, 98] : Bytes) _ e25) rfl rfl rfl (args_cons (hsl _ _ rfl) (args_cons rfl args_nil)) ⟨sr, sr, trivial⟩ Tryz.call20 rfl hK) rfl rfl (hsl _ _ rfl) (c23)) rfl rfl rfl ?_
            refine dq_cons (.p (eB (!r24))) [(51, _), (53, _)] ⟨.inr ⟨29, rfl, rfl⟩, .inr ⟨31, rfl, rfl⟩, trivial⟩ (fun sl hsl K hK => one_yes (ok_not rfl rfl rfl (hsl _ _ rfl) hK) rfl rfl (hsl _ _ rfl) (c23)) rfl rfl rfl ?_
            refine dq_cons (.p (eB (!r24))) [(51, _), (54, _)] ⟨.inr ⟨29, rfl, rfl⟩, .inr ⟨32, rfl, rfl⟩, trivial⟩ (fun sl hsl K hK => one_op rfl (ok_pick_true rfl rfl rfl (hsl _ _ rfl) (c23) (hsl _ _ rfl) hK)) rfl rfl rfl ?_
            refine dq_cons (.p (eB (!r24))) [(55, _)] ⟨.inr ⟨33, rfl, rfl⟩, trivial⟩ (fun sl hsl K hK => one_op rfl (ok_move rfl rfl rfl (hsl _ _ rfl) hK)) rfl rfl rfl ?_
            refine dq_cons (.p (eB r27)) [(56, _)] ⟨.inr ⟨34, rfl, rfl⟩, trivial⟩ (fun sl hsl K hK => one_yes (ok_callP (address_Identifier_ok _ ([97, 95, 49] : Bytes) _ e28) rfl rfl rfl (args_cons rfl args_nil) ⟨sr, trivial⟩ Tryz.call25 rfl hK) rfl rfl (hsl _ _ rfl) (c26)) rfl rfl rfl ?_
            refine dq_cons (.p (eB r27)) [(56, _), (57, _)] ⟨.inr ⟨34, rfl, rfl⟩, .inr ⟨35, rfl, rfl⟩, trivial⟩ (fun sl hsl K hK => one_op rfl (ok_pick_true rfl rfl rfl (hsl _ _ rfl) (c26) (hsl _ _ rfl) hK)) rfl rfl rfl ?_
            refine dq_cons (.p (eB r27)) [(58, _)] ⟨.inr ⟨36, rfl, rfl⟩, trivial⟩ (fun sl hsl K hK => one_op rfl (ok_move rfl rfl rfl (hsl _ _ rfl) hK)) rfl rfl rfl ?_
            refine dq_cons (.p (eB r30)) [(59, _)] ⟨.inr ⟨37, rfl, rfl⟩, trivial⟩ (fun sl hsl K hK => one_yes (ok_callP (address_Identifier_ok _ ([49, 97] : Bytes) _ e31) rfl rfl rfl (args_cons rfl args_nil) ⟨sr, trivial⟩ Tryz.call25 rfl hK) rfl rfl (hsl _ _ rfl) (c29)) rfl rfl rfl ?_
            refine dq_cons (.p (eB (!r30))) [(59, _), (60, _)] ⟨.inr ⟨37, rfl, rfl⟩, .inr ⟨38, rfl, rfl⟩, trivial⟩ (fun sl hsl K hK => one_yes (ok_not rfl rfl rfl (hsl _ _ rfl) hK) rfl rfl (hsl _ _ rfl) (c29)) rfl rfl rfl ?_
            refine dq_cons (.p (eB (!r30))) [(59, _), (61, _)] ⟨.inr ⟨37, rfl, rfl⟩, .inr ⟨39, rfl, rfl⟩, trivial⟩ (fun sl hsl K hK => one_op rfl (ok_pick_true rfl rfl rfl (hsl _ _ rfl) (c29) (hsl _ _ rfl) hK)) rfl rfl rfl ?_
            refine dq_cons (.p (eB (!r30))) [(62, _)] ⟨.inr ⟨40, rfl, rfl⟩, trivial⟩ (fun sl hsl K hK => one_op rfl (ok_move rfl rfl rfl (hsl _ _ rfl) hK)) rfl rfl rfl ?_
            refine dq_cons (.p (.agg [.val (.slice none 0 0), eB false, eS ([109, 111, 100, 117, 108, 101] : Bytes), eS ([97] : Bytes), eI 0, eI 0, eS ([] : Bytes)])) [(63, _)] ⟨.inr ⟨41, rfl, rfl⟩, trivial⟩ (fun sl hsl K hK => one_yes (ok_build rfl rfl rfl rfl rfl rfl (parts_cons rfl (parts_cons rfl parts_nil)) rfl rfl hK) rfl rfl (hsl _ _ rfl) (c32)) rfl rfl rfl ?_
            refine dq_cons (.p (eI r33)) [(63, _), (64, _)] ⟨.inr ⟨41, rfl, rfl⟩, .inr ⟨42, rfl, rfl⟩, trivial⟩ (fun sl hsl K hK => one_yes (ok_callP (address_Check_ok _ (TAddress.mk [] false ([109, 111, 100, 117, 108, 101] : Bytes) ([97] : Bytes) (TKey.mk 0 0 ([] : Bytes))) _ e34) rfl rfl rfl (args_cons (hsl _ _ rfl) args_nil) ⟨sub_cells ⟨.inr ⟨rfl, rfl⟩, .inl rfl, .inl rfl, .inl rfl, .inl rfl, .inl rfl, .inl rfl, trivial⟩, trivial⟩ Tryz.call9 rfl hK) rfl rfl (hsl _ _ rfl) (c32)) rfl rfl rfl ?_
            refine dq_cons (.p (eB (decide (r33 = 7)))) [(63, _), (65, _)] ⟨.inr ⟨41, rfl, rfl⟩, .inr ⟨43, rfl, rfl⟩, trivial⟩ (fun sl hsl K hK => one_yes (ok_cmp rfl rfl rfl (hsl _ _ rfl) rfl rfl hK) rfl rfl (hsl _ _ rfl) (c32)) rfl rfl rfl ?_
            refine dq_cons (.p (eB (decide (r33 = 7)))) [(63, _), (66, _)] ⟨.inr ⟨41, rfl, rfl⟩, .inr ⟨44, rfl, rfl⟩, trivial⟩ (fun sl hsl K hK => one_op rfl (ok_pick_true rfl rfl rfl (hsl _ _ rfl) (c32) (hsl _ _ rfl) hK)) rfl rfl rfl ?_
            refine dq_cons (.p (eB (decide (r33 = 7)))) [(67, _)] ⟨.inr ⟨45, rfl, rfl⟩, trivial⟩ (fun sl hsl K hK => one_op rfl (ok_assign rfl rfl rfl (hsl _ _ rfl) hK)) rfl rfl rfl ?_
            refine dq_nil ?_
            (repeat (first | refine uw ?_ | refine uo rfl ?_))
            have e1 := oi h1
            subst e1
            exact ghost_le (le_mk ⟨er rfl, trivial⟩ trivial)
           ·replace h1 := if_bf c32 h1
            refine awp_drawQ [(1, .p (eS ([109, 111, 100, 117, 108, 101, 46, 97, 91, 34, 120, 34, 93, 46, 115, 101, 114, 118, 101, 114, 46, 119, 101, 98, 91, 48, 93] : Bytes))), (2, .ptr 2 0), (3, .p (eI r1.2)), (4, .p (eS r3.1)), (5, .p (eI r3.2)), (7, .p (eI r5.2))] rfl ⟨rfl, rfl, rfl, rfl, rfl, rfl, trivial⟩ rfl ?_
            refine dq_cons (.p (.agg (TAddress.cs r7))) [] trivial (fun sl hsl K hK => one_op rfl (ok_callP (law06_example_ok  _ e8) rfl rfl rfl args_nil trivial Tryz.call24 rfl hK)) rfl rfl rfl ?_
            refine dq_cons (.p (eS r9)) [(22, _)] ⟨.inr ⟨0, rfl, rfl⟩, trivial⟩ (fun sl hsl K hK => one_op rfl (ok_callP (address_Format_ok _ r7 _ e10) rfl rfl rfl (args_cons (hsl _ _ rfl) args_nil) ⟨sr, trivial⟩ Tryz.call11 rfl hK)) rfl rfl rfl ?_
            refine dq_cons (.p (eS ([109, 111, 100, 117, 108, 101, 46, 97, 91, 34, 120, 34, 93, 46, 115, 101, 114, 118, 101, 114, 46, 119, 101, 98, 91, 48, 93] : Bytes))) [(1, _)] ⟨.inl rfl, trivial⟩ (fun sl hsl K hK => one_op rfl (ok_move rfl rfl rfl (hsl _ _ rfl) hK)) rfl rfl rfl ?_
            refine dq_cons (.p (eB (decide (r9 = ([109, 111, 100, 117, 108, 101, 46, 97, 91, 34, 120, 34, 93, 46, 115, 101, 114, 118, 101, 114, 46, 119, 101, 98, 91, 48, 93] : Bytes))))) [(23, _), (24, _)] ⟨.inr ⟨1, rfl, rfl⟩, .inr ⟨2, rfl, rfl⟩, trivial⟩ (fun sl hsl K hK => one_op rfl (ok_cmpS rfl rfl rfl (hsl _ _ rfl) (hsl _ _ rfl) rfl hK)) rfl rfl rfl ?_
            refine dq_cons (.p (eB (decide (r9 = ([109, 111, 100, 117, 108, 101, 46, 97, 91, 34, 120, 34, 93, 46, 115, 101, 114, 118, 101, 114, 46, 119, 101, 98, 91, 48, 93] : Bytes))))) [(25, _)] ⟨.inr ⟨3, rfl, rfl⟩, trivial⟩ (fun sl hsl K hK => one_op rfl (ok_move rfl rfl rfl (hsl _ _ rfl) hK)) rfl rfl rfl ?_
            refine dq_cons (.p (eI r1.2)) [(3, _), (26, _)] ⟨.inl rfl, .inr ⟨4, rfl, rfl⟩, trivial⟩ (fun sl hsl K hK => one_yes (ok_move rfl rfl rfl (hsl _ _ rfl) hK) rfl rfl (hsl _ _ rfl) (dt c11)) rfl rfl rfl ?_
            refine dq_cons (.p (eB (decide (r1.2 = 0)))) [(26, _), (27, _)] ⟨.inr ⟨4, rfl, rfl⟩, .inr ⟨5, rfl, rfl⟩, trivial⟩ (fun sl hsl K hK => one_yes (ok_cmp rfl rfl rfl (hsl _ _ rfl) rfl rfl hK) rfl rfl (hsl _ _ rfl) (dt c11)) rfl rfl rfl ?_
            refine dq_cons (.p (eB (decide (r1.2 = 0)))) [(26, _), (28, _)] ⟨.inr ⟨4, rfl, rfl⟩, .inr ⟨6, rfl, rfl⟩, trivial⟩ (fun sl hsl K hK => one_op rfl (ok_pick_true rfl rfl rfl (hsl _ _ rfl) (dt c11) (hsl _ _ rfl) hK)) rfl rfl rfl ?_
            refine dq_cons (.p (eB (decide (r1.2 = 0)))) [(29, _)] ⟨.inr ⟨7, rfl, rfl⟩, trivial⟩ (fun sl hsl K hK => one_op rfl (ok_move rfl rfl rfl (hsl _ _ rfl) hK)) rfl rfl rfl ?_
            refine dq_cons (.p (.agg (TAddress.cs r1.1))) [(2, _), (30, _)] ⟨.inl rfl, .inr ⟨8, rfl, rfl⟩, trivial⟩ (fun sl hsl K hK => one_yes (ok_loadPA rfl rfl rfl rfl rfl (hsl _ _ rfl) rfl rfl rfl hK) rfl rfl (hsl _ _ rfl) (dt c12)) rfl rfl rfl ?_
            refine dq_cons (.p (.agg (TAddress.cs r13))) [(30, _)] ⟨.inr ⟨8, rfl, rfl⟩, trivial⟩ (fun sl hsl K hK => one_yes (ok_callP (law06_example_ok  _ e14) rfl rfl rfl args_nil trivial Tryz.call24 rfl hK) rfl rfl (hsl _ _ rfl) (dt c12)) rfl rfl rfl ?_
            refine dq_cons (.p (eB r15)) [(30, _), (31, _), (32, _)] ⟨.inr ⟨8, rfl, rfl⟩, .inr ⟨9, rfl, rfl⟩, .inr ⟨10, rfl, rfl⟩, trivial⟩ (fun sl hsl K hK => one_yes (ok_callP (law06_Same_ok _ r1.1 r13 _ e16) rfl rfl rfl (args_cons (hsl _ _ rfl) (args_cons (hsl _ _ rfl) args_nil)) ⟨sr, sr, trivial⟩ Tryz.call19 rfl hK) rfl rfl (hsl _ _ rfl) (dt c12)) rfl rfl rfl ?_
            refine dq_cons (.p (eB r15)) [(30, _), (33, _)] ⟨.inr ⟨8, rfl, rfl⟩, .inr ⟨11, rfl, rfl⟩, trivial⟩ (fun sl hsl K hK => one_op rfl (ok_pick_true rfl rfl rfl (hsl _ _ rfl) (dt c12) (hsl _ _ rfl) hK)) rfl rfl rfl ?_
            refine dq_cons (.p (eB r15)) [(34, _)] ⟨.inr ⟨12, rfl, rfl⟩, trivial⟩ (fun sl hsl K hK => one_op rfl (ok_move rfl rfl rfl (hsl _ _ rfl) hK)) rfl rfl rfl ?_
            refine dq_cons (.p (eS r3.1)) [(4, _), (35, _)] ⟨.inl rfl, .inr ⟨13, rfl, rfl⟩, trivial⟩ (fun sl hsl K hK => one_yes (ok_move rfl rfl rfl (hsl _ _ rfl) hK) rfl rfl (hsl _ _ rfl) (c17)) rfl rfl rfl ?_
            refine dq_cons (.p (eB (decide (r3.1 = ([109, 111, 100, 117, 108, 101, 46, 97, 46, 115, 101, 114, 118, 101, 114, 46, 119, 101, 98] : Bytes))))) [(35, _), (36, _)] ⟨.inr ⟨13, rfl, rfl⟩, .inr ⟨14, rfl, rfl⟩, trivial⟩ (fun sl hsl K hK => one_yes (ok_cmpS rfl rfl rfl (hsl _ _ rfl) rfl rfl hK) rfl rfl (hsl _ _ rfl) (c17)) rfl rfl rfl ?_
            refine dq_cons (.p (eB (decide (r3.1 = ([109, 111, 100, 117, 108, 101, 46, 97, 46, 115, 101, 114, 118, 101, 114, 46, 119, 101, 98] : Bytes))))) [(35, _), (37, _)] ⟨.inr ⟨13, rfl, rfl⟩, .inr ⟨15, rfl, rfl⟩, trivial⟩ (fun sl hsl K hK => one_op rfl (ok_pick_true rfl rfl rfl (hsl _ _ rfl) (c17) (hsl _ _ rfl) hK)) rfl rfl rfl ?_
            refine dq_cons (.p (eB (decide (r3.1 = ([109, 111, 100, 117, 108, 101, 46, 97, 46, 115, 101, 114, 118, 101, 114, 46, 119, 101, 98] : Bytes))))) [(38, _)] ⟨.inr ⟨16, rfl, rfl⟩, trivial⟩ (fun sl hsl K hK => one_op rfl (ok_move rfl rfl rfl (hsl _ _ rfl) hK)) rfl rfl rfl ?_
            refine dq_cons (.p (eI r3.2)) [(5, _), (39, _)] ⟨.inl rfl, .inr ⟨17, rfl, rfl⟩, trivial⟩ (fun sl hsl K hK => one_yes (ok_move rfl rfl rfl (hsl _ _ rfl) hK) rfl rfl (hsl _ _ rfl) (dt c18)) rfl rfl rfl ?_
            refine dq_cons (.p (eB (decide (r3.2 = 0)))) [(39, _), (40, _)] ⟨.inr ⟨17, rfl, rfl⟩, .inr ⟨18, rfl, rfl⟩, trivial⟩ (fun sl hsl K hK => one_yes (ok_cmp rfl rfl rfl (hsl _ _ rfl) rfl rfl hK) rfl rfl (hsl _ _ rfl) (dt c18)) rfl rfl rfl ?_
            refine dq_cons (.p (eB (decide (r3.2 = 0)))) [(39, _), (41, _)] ⟨.inr ⟨17, rfl, rfl⟩, .inr ⟨19, rfl, rfl⟩, trivial⟩ (fun sl hsl K hK => one_op rfl (ok_pick_true rfl rfl rfl (hsl _ _ rfl) (dt c18) (hsl _ _ rfl) hK)) rfl rfl rfl ?_
            refine dq_cons (.p (eB (decide (r3.2 = 0)))) [(42, _)] ⟨.inr ⟨20, rfl, rfl⟩, trivial⟩ (fun sl hsl K hK => one_op rfl (ok_move rfl rfl rfl (hsl _ _ rfl) hK)) rfl rfl rfl ?_
            refine dq_cons (.p (eI r5.2)) [(7, _), (43, _)] ⟨.inl rfl, .inr ⟨21, rfl, rfl⟩, trivial⟩ (fun sl hsl K hK => one_yes (ok_move rfl rfl rfl (hsl _ _ rfl) hK) rfl rfl (hsl _ _ rfl) (dt c19)) rfl rfl rfl ?_
            refine dq_cons (.p (eB (decide (r5.2 = 2)))) [(43, _), (44, _)] ⟨.inr ⟨21, rfl, rfl⟩, .inr ⟨22, rfl, rfl⟩, trivial⟩ (fun sl hsl K hK => one_yes (ok_cmp rfl rfl rfl (hsl _ _ rfl) rfl rfl hK) rfl rfl (hsl _ _ rfl) (dt c19)) rfl rfl rfl ?_
            refine dq_cons (.p (eB (decide (r5.2 = 2)))) [(43, _), (45, _)] ⟨.inr ⟨21, rfl, rfl⟩, .inr ⟨23, rfl, rfl⟩, trivial⟩ (fun sl hsl K hK => one_op rfl (ok_pick_true rfl rfl rfl (hsl _ _ rfl) (dt c19) (hsl _ _ rfl) hK)) rfl rfl rfl ?_
            refine dq_cons (.p (eB (decide (r5.2 = 2)))) [(46, _)] ⟨.inr ⟨24, rfl, rfl⟩, trivial⟩ (fun sl hsl K hK => one_op rfl (ok_move rfl rfl rfl (hsl _ _ rfl) hK)) rfl rfl rfl ?_
            refine dq_cons (.p (eS ([109, 111, 100, 117, 108, 101, 46, 97, 91, 34, 120, 34, 93, 46, 115, 101, 114, 118, 101, 114, 46, 119, 101, 98, 91, 48, 93] : Bytes))) [(1, _), (47, _)] ⟨.inl rfl, .inr ⟨25, rfl, rfl⟩, trivial⟩ (fun sl hsl K hK => one_yes (ok_move rfl rfl rfl (hsl _ _ rfl) hK) rfl rfl (hsl _ _ rfl) (dt c20)) rfl rfl rfl ?_
            refine dq_cons (.p (eB r21)) [(47, _), (48, _)] ⟨.inr ⟨25, rfl, rfl⟩, .inr ⟨26, rfl, rfl⟩, trivial⟩ (fun sl hsl K hK => one_yes (ok_callP (address_Within_ok _ ([109, 111, 100, 117, 108, 101, 46, 97, 91, 34, 120, 34, 93, 46, 115, 101, 114, 118, 101, 114, 46, 119, 101, 98, 91, 48, 93] : Bytes) ([109, 111, 100, 117, 108, 101, 46, 97] : Bytes) _ e22) rfl rfl rfl (args_cons (hsl _ _ rfl) (args_cons rfl args_nil)) ⟨sr, sr, trivial⟩ Tryz.call20 rfl hK) rfl rfl (hsl _ _ rfl) (dt c20)) rfl rfl rfl ?_
            refine dq_cons (.p (eB r21)) [(47, _), (49, _)] ⟨.inr ⟨25, rfl, rfl⟩, .inr ⟨27, rfl, rfl⟩, trivial⟩ (fun sl hsl K hK => one_op rfl (ok_pick_true rfl rfl rfl (hsl _ _ rfl) (dt c20) (hsl _ _ rfl) hK)) rfl rfl rfl ?_
            refine dq_cons (.p (eB r21)) [(50, _)] ⟨.inr ⟨28, rfl, rfl⟩, trivial⟩ (fun sl hsl K hK => one_op rfl (ok_move rfl rfl rfl (hsl _ _ rfl) hK)) rfl rfl rfl ?_
            refine dq_cons (.p (eS ([109, 111, 100, 117, 108, 101, 46, 97, 91, 34, 120, 34, 93, 46, 115, 101, 114, 118, 101, 114, 46, 119, 101, 98, 91, 48, 93] : Bytes))) [(1, _), (51, _)] ⟨.inl rfl, .inr ⟨29, rfl, rfl⟩, trivial⟩ (fun sl hsl K hK => one_yes (ok_move rfl rfl rfl (hsl _ _ rfl) hK) rfl rfl (hsl _ _ rfl) (c23)) rfl rfl rfl ?_
            refine dq_cons (.p (eB r24)) [(51, _), (52, _)] ⟨.inr ⟨29, rfl, rfl⟩, .inr ⟨30, rfl, rfl⟩, trivial⟩ (fun sl hsl K hK => one_yes (ok_callP (address_Within_ok _ ([109, 111, 100, 117, 108, 101, 46, 97, 91, 34, 120, 34, 93, 46, 115, 101, 114, 118, 101, 114, 46, 119, 101, 98, 91, 48, 93] : Bytes) ([115, 101, 114, 118, 101, 114, 46, 119, 101, 98] : Bytes) _ e25) rfl rfl rfl (args_cons (hsl _ _ rfl) (args_cons rfl args_nil)) ⟨sr, sr, trivial⟩ Tryz.call20 rfl hK) rfl rfl (hsl _ _ rfl) (c23)) rfl rfl rfl ?_
            refine dq_cons (.p (eB (!r24))) [(51, _), (53, _)] ⟨.inr ⟨29, rfl, rfl⟩, .inr ⟨31, rfl, rfl⟩, trivial⟩ (fun sl hsl K hK => one_yes (ok_not rfl rfl rfl (hsl _ _ rfl) hK) rfl rfl (hsl _ _ rfl) (c23)) rfl rfl rfl ?_
            refine dq_cons (.p (eB (!r24))) [(51, _), (54, _)] ⟨.inr ⟨29, rfl, rfl⟩, .inr ⟨32, rfl, rfl⟩, trivial⟩ (fun sl hsl K hK => one_op rfl (ok_pick_true rfl rfl rfl (hsl _ _ rfl) (c23) (hsl _ _ rfl) hK)) rfl rfl rfl ?_
            refine dq_cons (.p (eB (!r24))) [(55, _)] ⟨.inr ⟨33, rfl, rfl⟩, trivial⟩ (fun sl hsl K hK => one_op rfl (ok_move rfl rfl rfl (hsl _ _ rfl) hK)) rfl rfl rfl ?_
            refine dq_cons (.p (eB r27)) [(56, _)] ⟨.inr ⟨34, rfl, rfl⟩, trivial⟩ (fun sl hsl K hK => one_yes (ok_callP (address_Identifier_ok _ ([97, 95, 49] : Bytes) _ e28) rfl rfl rfl (args_cons rfl args_nil) ⟨sr, trivial⟩ Tryz.call25 rfl hK) rfl rfl (hsl _ _ rfl) (c26)) rfl rfl rfl ?_
            refine dq_cons (.p (eB r27)) [(56, _), (57, _)] ⟨.inr ⟨34, rfl, rfl⟩, .inr ⟨35, rfl, rfl⟩, trivial⟩ (fun sl hsl K hK => one_op rfl (ok_pick_true rfl rfl rfl (hsl _ _ rfl) (c26) (hsl _ _ rfl) hK)) rfl rfl rfl ?_
            refine dq_cons (.p (eB r27)) [(58, _)] ⟨.inr ⟨36, rfl, rfl⟩, trivial⟩ (fun sl hsl K hK => one_op rfl (ok_move rfl rfl rfl (hsl _ _ rfl) hK)) rfl rfl rfl ?_
            refine dq_cons (.p (eB r30)) [(59, _)] ⟨.inr ⟨37, rfl, rfl⟩, trivial⟩ (fun sl hsl K hK => one_yes (ok_callP (address_Identifier_ok _ ([49, 97] : Bytes) _ e31) rfl rfl rfl (args_cons rfl args_nil) ⟨sr, trivial⟩ Tryz.call25 rfl hK) rfl rfl (hsl _ _ rfl) (c29)) rfl rfl rfl ?_
            refine dq_cons (.p (eB (!r30))) [(59, _), (60, _)] ⟨.inr ⟨37, rfl, rfl⟩, .inr ⟨38, rfl, rfl⟩, trivial⟩ (fun sl hsl K hK => one_yes (ok_not rfl rfl rfl (hsl _ _ rfl) hK) rfl rfl (hsl _ _ rfl) (c29)) rfl rfl rfl ?_
            refine dq_cons (.p (eB (!r30))) [(59, _), (61, _)] ⟨.inr ⟨37, rfl, rfl⟩, .inr ⟨39, rfl, rfl⟩, trivial⟩ (fun sl hsl K hK => one_op rfl (ok_pick_true rfl rfl rfl (hsl _ _ rfl) (c29) (hsl _ _ rfl) hK)) rfl rfl rfl ?_
            refine dq_cons (.p (eB (!r30))) [(62, _)] ⟨.inr ⟨40, rfl, rfl⟩, trivial⟩ (fun sl hsl K hK => one_op rfl (ok_move rfl rfl rfl (hsl _ _ rfl) hK)) rfl rfl rfl ?_
            refine dq_cons (.p (.val Go.undef)) [(63, _)] ⟨.inr ⟨41, rfl, rfl⟩, trivial⟩ (fun sl hsl K hK => one_no rfl rfl (hsl _ _ rfl) (c32) rfl rfl hK) rfl rfl rfl ?_
            refine dq_cons (.p (.val Go.undef)) [(63, _), (64, _)] ⟨.inr ⟨41, rfl, rfl⟩, .inr ⟨42, rfl, rfl⟩, trivial⟩ (fun sl hsl K hK => one_no rfl rfl (hsl _ _ rfl) (c32) rfl rfl hK) rfl rfl rfl ?_
            refine dq_cons (.p (.val Go.undef)) [(63, _), (65, _)] ⟨.inr ⟨41, rfl, rfl⟩, .inr ⟨43, rfl, rfl⟩, trivial⟩ (fun sl hsl K hK => one_no rfl rfl (hsl _ _ rfl) (c32) rfl rfl hK) rfl rfl rfl ?_
            refine dq_cons (.p (eB false)) [(63, _), (66, _)] ⟨.inr ⟨41, rfl, rfl⟩, .inr ⟨44, rfl, rfl⟩, trivial⟩ (fun sl hsl K hK => one_op rfl (ok_pick_false rfl rfl rfl (hsl _ _ rfl) (c32) rfl hK)) rfl rfl rfl ?_
            refine dq_cons (.p (eB false)) [(67, _)] ⟨.inr ⟨45, rfl, rfl⟩, trivial⟩ (fun sl hsl K hK => one_op rfl (ok_assign rfl rfl rfl (hsl _ _ rfl) hK)) rfl rfl rfl ?_
            refine dq_nil ?_
            (repeat (first | refine uw ?_ | refine uo rfl ?_))
            have e1 := oi h1
            subst e1
            exact ghost_le (le_mk ⟨er rfl, trivial⟩ trivial)
          ·replace h1 := if_bf c29 h1
           refine awp_drawQ [(1, .p (eS ([109, 111, 100, 117, 108, 101, 46, 97, 91, 34, 120, 34, 93, 46, 115, 101, 114, 118, 101, 114, 46, 119, 101, 98, 91, 48, 93] : Bytes))), (2, .ptr 2 0), (3, .p (eI r1.2)), (4, .p (eS r3.1)), (5, .p (eI r3.2)), (7, .p (eI r5.2))] rfl ⟨rfl, rfl, rfl, rfl, rfl, rfl, trivial⟩ rfl ?_
           refine dq_cons (.p (.agg (TAddress.cs r7))) [] trivial (fun sl hsl K hK => one_op rfl (ok_callP (law06_example_ok  _ e8) rfl rfl rfl args_nil trivial Tryz.call24 rfl hK)) rfl rfl rfl ?_
           refine dq_cons (.p (eS r9)) [(22, _)] ⟨.inr ⟨0, rfl, rfl⟩, trivial⟩ (fun sl hsl K hK => one_op rfl (ok_callP (address_Format_ok _ r7 _ e10) rfl rfl rfl (args_cons (hsl _ _ rfl) args_nil) ⟨sr, trivial⟩ Tryz.call11 rfl hK)) rfl rfl rfl ?_
           refine dq_cons (.p (eS ([109, 111, 100, 117, 108, 101, 46, 97, 91, 34, 120, 34, 93, 46, 115, 101, 114, 118, 101, 114, 46, 119, 101, 98, 91, 48, 93] : Bytes))) [(1, _)] ⟨.inl rfl, trivial⟩ (fun sl hsl K hK => one_op rfl (ok_move rfl rfl rfl (hsl _ _ rfl) hK)) rfl rfl rfl ?_
           refine dq_cons (.p (eB (decide (r9 = ([109, 111, 100, 117, 108, 101, 46, 97, 91, 34, 120, 34, 93, 46, 115, 101, 114, 118, 101, 114, 46, 119, 101, 98, 91, 48, 93] : Bytes))))) [(23, _), (24, _)] ⟨.inr ⟨1, rfl, rfl⟩, .inr ⟨2, rfl, rfl⟩, trivial⟩ (fun sl hsl K hK => one_op rfl (ok_cmpS rfl rfl rfl (hsl _ _ rfl) (hsl _ _ rfl) rfl hK)) rfl rfl rfl ?_
           refine dq_cons (.p (eB (decide (r9 = ([109, 111, 100, 117, 108, 101, 46, 97, 91, 34, 120, 34, 93, 46, 115, 101, 114, 118, 101, 114, 46, 119, 101, 98, 91, 48, 93] : Bytes))))) [(25, _)] ⟨.inr ⟨3, rfl, rfl⟩, trivial⟩ (fun sl hsl K hK => one_op rfl (ok_move rfl rfl rfl (hsl _ _ rfl) hK)) rfl rfl rfl ?_
           refine dq_cons (.p (eI r1.2)) [(3, _), (26, _)] ⟨.inl rfl, .inr ⟨4, rfl, rfl⟩, trivial⟩ (fun sl hsl K hK => one_yes (ok_move rfl rfl rfl (hsl _ _ rfl) hK) rfl rfl (hsl _ _ rfl) (dt c11)) rfl rfl rfl ?_
           refine dq_cons (.p (eB (decide (r1.2 = 0)))) [(26, _), (27, _)] ⟨.inr ⟨4, rfl, rfl⟩, .inr ⟨5, rfl, rfl⟩, trivial⟩ (fun sl hsl K hK => one_yes (ok_cmp rfl rfl rfl (hsl _ _ rfl) rfl rfl hK) rfl rfl (hsl _ _ rfl) (dt c11)) rfl rfl rfl ?_
           refine dq_cons (.p (eB (decide (r1.2 = 0)))) [(26, _), (28, _)] ⟨.inr ⟨4, rfl, rfl⟩, .inr ⟨6, rfl, rfl⟩, trivial⟩ (fun sl hsl K hK => one_op rfl (ok_pick_true rfl rfl rfl (hsl _ _ rfl) (dt c11) (hsl _ _ rfl) hK)) rfl rfl rfl ?_
           refine dq_cons (.p (eB (decide (r1.2 = 0)))) [(29, _)] ⟨.inr ⟨7, rfl, rfl⟩, trivial⟩ (fun sl hsl K hK => one_op rfl (ok_move rfl rfl rfl (hsl _ _ rfl) hK)) rfl rfl rfl ?_
           refine dq_cons (.p (.agg (TAddress.cs r1.1))) [(2, _), (30, _)] ⟨.inl rfl, .inr ⟨8, rfl, rfl⟩, trivial⟩ (fun sl hsl K hK => one_yes (ok_loadPA rfl rfl rfl rfl rfl (hsl _ _ rfl) rfl rfl rfl hK) rfl rfl (hsl _ _ rfl) (dt c12)) rfl rfl rfl ?_
           refine dq_cons (.p (.agg (TAddress.cs r13))) [(30, _)] ⟨.inr ⟨8, rfl, rfl⟩, trivial⟩ (fun sl hsl K hK => one_yes (ok_callP (law06_example_ok  _ e14) rfl rfl rfl args_nil trivial Tryz.call24 rfl hK) rfl rfl (hsl _ _ rfl) (dt c12)) rfl rfl rfl ?_
           refine dq_cons (.p (eB r15)) [(30, _), (31, _), (32, _)] ⟨.inr ⟨8, rfl, rfl⟩, .inr ⟨9, rfl, rfl⟩, .inr ⟨10, rfl, rfl⟩, trivial⟩ (fun sl hsl K hK => one_yes (ok_callP (law06_Same_ok _ r1.1 r13 _ e16) rfl rfl rfl (args_cons (hsl _ _ rfl) (args_cons (hsl _ _ rfl) args_nil)) ⟨sr, sr, trivial⟩ Tryz.call19 rfl hK) rfl rfl (hsl _ _ rfl) (dt c12)) rfl rfl rfl ?_
           refine dq_cons (.p (eB r15)) [(30, _), (33, _)] ⟨.inr ⟨8, rfl, rfl⟩, .inr ⟨11, rfl, rfl⟩, trivial⟩ (fun sl hsl K hK => one_op rfl (ok_pick_true rfl rfl rfl (hsl _ _ rfl) (dt c12) (hsl _ _ rfl) hK)) rfl rfl rfl ?_
           refine dq_cons (.p (eB r15)) [(34, _)] ⟨.inr ⟨12, rfl, rfl⟩, trivial⟩ (fun sl hsl K hK => one_op rfl (ok_move rfl rfl rfl (hsl _ _ rfl) hK)) rfl rfl rfl ?_
           refine dq_cons (.p (eS r3.1)) [(4, _), (35, _)] ⟨.inl rfl, .inr ⟨13, rfl, rfl⟩, trivial⟩ (fun sl hsl K hK => one_yes (ok_move rfl rfl rfl (hsl _ _ rfl) hK) rfl rfl (hsl _ _ rfl) (c17)) rfl rfl rfl ?_
           refine dq_cons (.p (eB (decide (r3.1 = ([109, 111, 100, 117, 108, 101, 46, 97, 46, 115, 101, 114, 118, 101, 114, 46, 119, 101, 98] : Bytes))))) [(35, _), (36, _)] ⟨.inr ⟨13, rfl, rfl⟩, .inr ⟨14, rfl, rfl⟩, trivial⟩ (fun sl hsl K hK => one_yes (ok_cmpS rfl rfl rfl (hsl _ _ rfl) rfl rfl hK) rfl rfl (hsl _ _ rfl) (c17)) rfl rfl rfl ?_
           refine dq_cons (.p (eB (decide (r3.1 = ([109, 111, 100, 117, 108, 101, 46, 97, 46, 115, 101, 114, 118, 101, 114, 46, 119, 101, 98] : Bytes))))) [(35, _), (37, _)] ⟨.inr ⟨13, rfl, rfl⟩, .inr ⟨15, rfl, rfl⟩, trivial⟩ (fun sl hsl K hK => one_op rfl (ok_pick_true rfl rfl rfl (hsl _ _ rfl) (c17) (hsl _ _ rfl) hK)) rfl rfl rfl ?_
           refine dq_cons (.p (eB (decide (r3.1 = ([109, 111, 100, 117, 108, 101, 46, 97, 46, 115, 101, 114, 118, 101, 114, 46, 119, 101, 98] : Bytes))))) [(38, _)] ⟨.inr ⟨16, rfl, rfl⟩, trivial⟩ (fun sl hsl K hK => one_op rfl (ok_move rfl rfl rfl (hsl _ _ rfl) hK)) rfl rfl rfl ?_
           refine dq_cons (.p (eI r3.2)) [(5, _), (39, _)] ⟨.inl rfl, .inr ⟨17, rfl, rfl⟩, trivial⟩ (fun sl hsl K hK => one_yes (ok_move rfl rfl rfl (hsl _ _ rfl) hK) rfl rfl (hsl _ _ rfl) (dt c18)) rfl rfl rfl ?_
           refine dq_cons (.p (eB (decide (r3.2 = 0)))) [(39, _), (40, _)] ⟨.inr ⟨17, rfl, rfl⟩, .inr ⟨18, rfl, rfl⟩, trivial⟩ (fun sl hsl K hK => one_yes (ok_cmp rfl rfl rfl (hsl _ _ rfl) rfl rfl hK) rfl rfl (hsl _ _ rfl) (dt c18)) rfl rfl rfl ?_
           refine dq_cons (.p (eB (decide (r3.2 = 0)))) [(39, _), (41, _)] ⟨.inr ⟨17, rfl, rfl⟩, .inr ⟨19, rfl, rfl⟩, trivial⟩ (fun sl hsl K hK => one_op rfl (ok_pick_true rfl rfl rfl (hsl _ _ rfl) (dt c18) (hsl _ _ rfl) hK)) rfl rfl rfl ?_
           refine dq_cons (.p (eB (decide (r3.2 = 0)))) [(42, _)] ⟨.inr ⟨20, rfl, rfl⟩, trivial⟩ (fun sl hsl K hK => one_op rfl (ok_move rfl rfl rfl (hsl _ _ rfl) hK)) rfl rfl rfl ?_
           refine dq_cons (.p (eI r5.2)) [(7, _), (43, _)] ⟨.inl rfl, .inr ⟨21, rfl, rfl⟩, trivial⟩ (fun sl hsl K hK => one_yes (ok_move rfl rfl rfl (hsl _ _ rfl) hK) rfl rfl (hsl _ _ rfl) (dt c19)) rfl rfl rfl ?_
           refine dq_cons (.p (eB (decide (r5.2 = 2)))) [(43, _), (44, _)] ⟨.inr ⟨21, rfl, rfl⟩, .inr ⟨22, rfl, rfl⟩, trivial⟩ (fun sl hsl K hK => one_yes (ok_cmp rfl rfl rfl (hsl _ _ rfl) rfl rfl hK) rfl rfl (hsl _ _ rfl) (dt c19)) rfl rfl rfl ?_
           refine dq_cons (.p (eB (decide (r5.2 = 2)))) [(43, _), (45, _)] ⟨.inr ⟨21, rfl, rfl⟩, .inr ⟨23, rfl, rfl⟩, trivial⟩ (fun sl hsl K hK => one_op rfl (ok_pick_true rfl rfl rfl (hsl _ _ rfl) (dt c19) (hsl _ _ rfl) hK)) rfl rfl rfl ?_
           refine dq_cons (.p (eB (decide (r5.2 = 2)))) [(46, _)] ⟨.inr ⟨24, rfl, rfl⟩, trivial⟩ (fun sl hsl K hK => one_op rfl (ok_move rfl rfl rfl (hsl _ _ rfl) hK)) rfl rfl rfl ?_
           refine dq_cons (.p (eS ([109, 111, 100, 117, 108, 101, 46, 97, 91, 34, 120, 34, 93, 46, 115, 101, 114, 118, 101, 114, 46, 119, 101, 98, 91, 48, 93] : Bytes))) [(1, _), (47, _)] ⟨.inl rfl, .inr ⟨25, rfl, rfl⟩, trivial⟩ (fun sl hsl K hK => one_yes (ok_move rfl rfl rfl (hsl _ _ rfl) hK) rfl rfl (hsl _ _ rfl) (dt c20)) rfl rfl rfl ?_
           refine dq_cons (.p (eB r21)) [(47, _), (48, _)] ⟨.inr ⟨25, rfl, rfl⟩, .inr ⟨26, rfl, rfl⟩, trivial⟩ (fun sl hsl K hK => one_yes (ok_callP (address_Within_ok _ ([109, 111, 100, 117, 108, 101, 46, 97, 91, 34, 120, 34, 93, 46, 115, 101, 114, 118, 101, 114, 46, 119, 101, 98, 91, 48, 93] : Bytes) ([109, 111, 100, 117, 108, 101, 46, 97] : Bytes) _ e22) rfl rfl rfl (args_cons (hsl _ _ rfl) (args_cons rfl args_nil)) ⟨sr, sr, trivial⟩ Tryz.call20 rfl hK) rfl rfl (hsl _ _ rfl) (dt c20)) rfl rfl rfl ?_
           refine dq_cons (.p (eB r21)) [(47, _), (49, _)] ⟨.inr ⟨25, rfl, rfl⟩, .inr ⟨27, rfl, rfl⟩, trivial⟩ (fun sl hsl K hK => one_op rfl (ok_pick_true rfl rfl rfl (hsl _ _ rfl) (dt c20) (hsl _ _ rfl) hK)) rfl rfl rfl ?_
           refine dq_cons (.p (eB r21)) [(50, _)] ⟨.inr ⟨28, rfl, rfl⟩, trivial⟩ (fun sl hsl K hK => one_op rfl (ok_move rfl rfl rfl (hsl _ _ rfl) hK)) rfl rfl rfl ?_
           refine dq_cons (.p (eS ([109, 111, 100, 117, 108, 101, 46, 97, 91, 34, 120, 34, 93, 46, 115, 101, 114, 118, 101, 114, 46, 119, 101, 98, 91, 48, 93] : Bytes))) [(1, _), (51, _)] ⟨.inl rfl, .inr ⟨29, rfl, rfl⟩, trivial⟩ (fun sl hsl K hK => one_yes (ok_move rfl rfl rfl (hsl _ _ rfl) hK) rfl rfl (hsl _ _ rfl) (c23)) rfl rfl rfl ?_
           refine dq_cons (.p (eB r24)) [(51, _), (52, _)] ⟨.inr ⟨29, rfl, rfl⟩, .inr ⟨30, rfl, rfl⟩, trivial⟩ (fun sl hsl K hK => one_yes (ok_callP (address_Within_ok _ ([109, 111, 100, 117, 108, 101, 46, 97, 91, 34, 120, 34, 93, 46, 115, 101, 114, 118, 101, 114, 46, 119, 101, 98, 91, 48, 93] : Bytes) ([115, 101, 114, 118, 101, 114, 46, 119, 101, 98] : Bytes) _ e25) rfl rfl rfl (args_cons (hsl _ _ rfl) (args_cons rfl args_nil)) ⟨sr, sr, trivial⟩ Tryz.call20 rfl hK) rfl rfl (hsl _ _ rfl) (c23)) rfl rfl rfl ?_
           refine dq_cons (.p (eB (!r24))) [(51, _), (53, _)] ⟨.inr ⟨29, rfl, rfl⟩, .inr ⟨31, rfl, rfl⟩, trivial⟩ (fun sl hsl K hK => one_yes (ok_not rfl rfl rfl (hsl _ _ rfl) hK) rfl rfl (hsl _ _ rfl) (c23)) rfl rfl rfl ?_
           refine dq_cons (.p (eB (!r24))) [(51, _), (54, _)] ⟨.inr ⟨29, rfl, rfl⟩, .inr ⟨32, rfl, rfl⟩, trivial⟩ (fun sl hsl K hK => one_op rfl (ok_pick_true rfl rfl rfl (hsl _ _ rfl) (c23) (hsl _ _ rfl) hK)) rfl rfl rfl ?_
           refine dq_cons (.p (eB (!r24))) [(55, _)] ⟨.inr ⟨33, rfl, rfl⟩, trivial⟩ (fun sl hsl K hK => one_op rfl (ok_move rfl rfl rfl (hsl _ _ rfl) hK)) rfl rfl rfl ?_
           refine dq_cons (.p (eB r27)) [(56, _)] ⟨.inr ⟨34, rfl, rfl⟩, trivial⟩ (fun sl hsl K hK => one_yes (ok_callP (address_Identifier_ok _ ([97, 95, 49] : Bytes) _ e28) rfl rfl rfl (args_cons rfl args_nil) ⟨sr, trivial⟩ Tryz.call25 rfl hK) rfl rfl (hsl _ _ rfl) (c26)) rfl rfl rfl ?_
           refine dq_cons (.p (eB r27)) [(56, _), (57, _)] ⟨.inr ⟨34, rfl, rfl⟩, .inr ⟨35, rfl, rfl⟩, trivial⟩ (fun sl hsl K hK => one_op rfl (ok_pick_true rfl rfl rfl (hsl _ _ rfl) (c26) (hsl _ _ rfl) hK)) rfl rfl rfl ?_
           refine dq_cons (.p (eB r27)) [(58, _)] ⟨.inr ⟨36, rfl, rfl⟩, trivial⟩ (fun sl hsl K hK => one_op rfl (ok_move rfl rfl rfl (hsl _ _ rfl) hK)) rfl rfl rfl ?_
           refine dq_cons (.p (.val Go.undef)) [(59, _)] ⟨.inr ⟨37, rfl, rfl⟩, trivial⟩ (fun sl hsl K hK => one_no rfl rfl (hsl _ _ rfl) (c29) rfl rfl hK) rfl rfl rfl ?_
           refine dq_cons (.p (.val Go.undef)) [(59, _), (60, _)] ⟨.inr ⟨37, rfl, rfl⟩, .inr ⟨38, rfl, rfl⟩, trivial⟩ (fun sl hsl K hK => one_no rfl rfl (hsl _ _ rfl) (c29) rfl rfl hK) rfl rfl rfl ?_
           refine dq_cons (.p (eB false)) [(59, _), (61, _)] ⟨.inr ⟨37, rfl, rfl⟩, .inr ⟨39, rfl, rfl⟩, trivial⟩ (fun sl hsl K hK => one_op rfl (ok_pick_false rfl rfl rfl (hsl _ _ rfl) (c29) rfl hK)) rfl rfl rfl ?_
           refine dq_cons (.p (eB false)) [(62, _)] ⟨.inr ⟨40, rfl, rfl⟩, trivial⟩ (fun sl hsl K hK => one_op rfl (ok_move rfl rfl rfl (hsl _ _ rfl) hK)) rfl rfl rfl ?_
           refine dq_cons (.p (.val Go.undef)) [(63, _)] ⟨.inr ⟨41, rfl, rfl⟩, trivial⟩ (fun sl hsl K hK => one_no rfl rfl (hsl _ _ rfl) (rfl) rfl rfl hK) rfl rfl rfl ?_
           refine dq_cons (.p (.val Go.undef)) [(63, _), (64, _)] ⟨.inr ⟨41, rfl, rfl⟩, .inr ⟨42, rfl, rfl⟩, trivial⟩ (fun sl hsl K hK => one_no rfl rfl (hsl _ _ rfl) (rfl) rfl rfl hK) rfl rfl rfl ?_
           refine dq_cons (.p (.val Go.undef)) [(63, _), (65, _)] ⟨.inr ⟨41, rfl, rfl⟩, .inr ⟨43, rfl, rfl⟩, trivial⟩ (fun sl hsl K hK => one_no rfl rfl (hsl _ _ rfl) (rfl) rfl rfl hK) rfl rfl rfl ?_
           refine dq_cons (.p (eB false)) [(63, _), (66, _)] ⟨.inr ⟨41, rfl, rfl⟩, .inr ⟨44, rfl, rfl⟩, trivial⟩ (fun sl hsl K hK => one_op rfl (ok_pick_false rfl rfl rfl (hsl _ _ rfl) (rfl) rfl hK)) rfl rfl rfl ?_
           refine dq_cons (.p (eB false)) [(67, _)] ⟨.inr ⟨45, rfl, rfl⟩, trivial⟩ (fun sl hsl K hK => one_op rfl (ok_assign rfl rfl rfl (hsl _ _ rfl) hK)) rfl rfl rfl ?_
           refine dq_nil ?_
           (repeat (first | refine uw ?_ | refine uo rfl ?_))
           have e1 := oi h1
           subst e1
           exact ghost_le (le_mk ⟨er rfl, trivial⟩ trivial)
         ·replace h1 := if_bf c26 h1
          refine awp_drawQ [(1, .p (eS ([109, 111, 100, 117, 108, 101, 46, 97, 91, 34, 120, 34, 93, 46, 115, 101, 114, 118, 101, 114, 46, 119, 101, 98, 91, 48, 93] : Bytes))), (2, .ptr 2 0), (3, .p (eI r1.2)), (4, .p (eS r3.1)), (5, .p (eI r3.2)), (7, .p (eI r5.2))] rfl ⟨rfl, rfl, rfl, rfl, rfl, rfl, trivial⟩ rfl ?_
          refine dq_cons (.p (.agg (TAddress.cs r7))) [] trivial (fun sl hsl K hK => one_op rfl (ok_callP (law06_example_ok  _ e8) rfl rfl rfl args_nil trivial Tryz.call24 rfl hK)) rfl rfl rfl ?_
          refine dq_cons (.p (eS r9)) [(22, _)] ⟨.inr ⟨0, rfl, rfl⟩, trivial⟩ (fun sl hsl K hK => one_op rfl (ok_callP (address_Format_ok _ r7 _ e10) rfl rfl rfl (args_cons (hsl _ _ rfl) args_nil) ⟨sr, trivial⟩ Tryz.call11 rfl hK)) rfl rfl rfl ?_
          refine dq_cons (.p (eS ([109, 111, 100, 117, 108, 101, 46, 97, 91, 34, 120, 34, 93, 46, 115, 101, 114, 118, 101, 114, 46, 119, 101, 98, 91, 48, 93] : Bytes))) [(1, _)] ⟨.inl rfl, trivial⟩ (fun sl hsl K hK => one_op rfl (ok_move rfl rfl rfl (hsl _ _ rfl) hK)) rfl rfl rfl ?_
          refine dq_cons (.p (eB (decide (r9 = ([109, 111, 100, 117, 108, 101, 46, 97, 91, 34, 120, 34, 93, 46, 115, 101, 114, 118, 101, 114, 46, 119, 101, 98, 91, 48, 93] : Bytes))))) [(23, _), (24, _)] ⟨.inr ⟨1, rfl, rfl⟩, .inr ⟨2, rfl, rfl⟩, trivial⟩ (fun sl hsl K hK => one_op rfl (ok_cmpS rfl rfl rfl (hsl _ _ rfl) (hsl _ _ rfl) rfl hK)) rfl rfl rfl ?_
          refine dq_cons (.p (eB (decide (r9 = ([109, 111, 100, 117, 108, 101, 46, 97, 91, 34, 120, 34, 93, 46, 115, 101, 114, 118, 101, 114, 46, 119, 101, 98, 91, 48, 93] : Bytes))))) [(25, _)] ⟨.inr ⟨3, rfl, rfl⟩, trivial⟩ (fun sl hsl K hK => one_op rfl (ok_move rfl rfl rfl (hsl _ _ rfl) hK)) rfl rfl rfl ?_
          refine dq_cons (.p (eI r1.2)) [(3, _), (26, _)] ⟨.inl rfl, .inr ⟨4, rfl, rfl⟩, trivial⟩ (fun sl hsl K hK => one_yes (ok_move rfl rfl rfl (hsl _ _ rfl) hK) rfl rfl (hsl _ _ rfl) (dt c11)) rfl rfl rfl ?_
          refine dq_cons (.p (eB (decide (r1.2 = 0)))) [(26, _), (27, _)] ⟨.inr ⟨4, rfl, rfl⟩, .inr ⟨5, rfl, rfl⟩, trivial⟩ (fun sl hsl K hK => one_yes (ok_cmp rfl rfl rfl (hsl _ _ rfl) rfl rfl hK) rfl rfl (hsl _ _ rfl) (dt c11)) rfl rfl rfl ?_
          refine dq_cons (.p (eB (decide (r1.2 = 0)))) [(26, _), (28, _)] ⟨.inr ⟨4, rfl, rfl⟩, .inr ⟨6, rfl, rfl⟩, trivial⟩ (fun sl hsl K hK => one_op rfl (ok_pick_true rfl rfl rfl (hsl _ _ rfl) (dt c11) (hsl _ _ rfl) hK)) rfl rfl rfl ?_
          refine dq_cons (.p (eB (decide (r1.2 = 0)))) [(29, _)] ⟨.inr ⟨7, rfl, rfl⟩, trivial⟩ (fun sl hsl K hK => one_op rfl (ok_move rfl rfl rfl (hsl _ _ rfl) hK)) rfl rfl rfl ?_
          refine dq_cons (.p (.agg (TAddress.cs r1.1))) [(2, _), (30, _)] ⟨.inl rfl, .inr ⟨8, rfl, rfl⟩, trivial⟩ (fun sl hsl K hK => one_yes (ok_loadPA rfl rfl rfl rfl rfl (hsl _ _ rfl) rfl rfl rfl hK) rfl rfl (hsl _ _ rfl) (dt c12)) rfl rfl rfl ?_
          refine dq_cons (.p (.agg (TAddress.cs r13))) [(30, _)] ⟨.inr ⟨8, rfl, rfl⟩, trivial⟩ (fun sl hsl K hK => one_yes (ok_callP (law06_example_ok  _ e14) rfl rfl rfl args_nil trivial Tryz.call24 rfl hK) rfl rfl (hsl _ _ rfl) (dt c12)) rfl rfl rfl ?_
          refine dq_cons (.p (eB r15)) [(30, _), (31, _), (32, _)] ⟨.inr ⟨8, rfl, rfl⟩, .inr ⟨9, rfl, rfl⟩, .inr ⟨10, rfl, rfl⟩, trivial⟩ (fun sl hsl K hK => one_yes (ok_callP (law06_Same_ok _ r1.1 r13 _ e16) rfl rfl rfl (args_cons (hsl _ _ rfl) (args_cons (hsl _ _ rfl) args_nil)) ⟨sr, sr, trivial⟩ Tryz.call19 rfl hK) rfl rfl (hsl _ _ rfl) (dt c12)) rfl rfl rfl ?_
          refine dq_cons (.p (eB r15)) [(30, _), (33, _)] ⟨.inr ⟨8, rfl, rfl⟩, .inr ⟨11, rfl, rfl⟩, trivial⟩ (fun sl hsl K hK => one_op rfl (ok_pick_true rfl rfl rfl (hsl _ _ rfl) (dt c12) (hsl _ _ rfl) hK)) rfl rfl rfl ?_
          refine dq_cons (.p (eB r15)) [(34, _)] ⟨.inr ⟨12, rfl, rfl⟩, trivial⟩ (fun sl hsl K hK => one_op rfl (ok_move rfl rfl rfl (hsl _ _ rfl) hK)) rfl rfl rfl ?_
          refine dq_cons (.p (eS r3.1)) [(4, _), (35, _)] ⟨.inl rfl, .inr ⟨13, rfl, rfl⟩, trivial⟩ (fun sl hsl K hK => one_yes (ok_move rfl rfl rfl (hsl _ _ rfl) hK) rfl rfl (hsl _ _ rfl) (c17)) rfl rfl rfl ?_
          refine dq_cons (.p (eB (decide (r3.1 = ([109, 111, 100, 117, 108, 101, 46, 97, 46, 115, 101, 114, 118, 101, 114, 46, 119, 101, 98] : Bytes))))) [(35, _), (36, _)] ⟨.inr ⟨13, rfl, rfl⟩, .inr ⟨14, rfl, rfl⟩, trivial⟩ (fun sl hsl K hK => one_yes (ok_cmpS rfl rfl rfl (hsl _ _ rfl) rfl rfl hK) rfl rfl (hsl _ _ rfl) (c17)) rfl rfl rfl ?_
          refine dq_cons (.p (eB (decide (r3.1 = ([109, 111, 100, 117, 108, 101, 46, 97, 46, 115, 101, 114, 118, 101, 114, 46, 119, 101, 98] : Bytes))))) [(35, _), (37, _)] ⟨.inr ⟨13, rfl, rfl⟩, .inr ⟨15, rfl, rfl⟩, trivial⟩ (fun sl hsl K hK => one_op rfl (ok_pick_true rfl rfl rfl (hsl _ _ rfl) (c17) (hsl _ _ rfl) hK)) rfl rfl rfl ?_
          refine dq_cons (.p (eB (decide (r3.1 = ([109, 111, 100, 117, 108, 101, 46, 97, 46, 115, 101, 114, 118, 101, 114, 46, 119, 101, 98] : Bytes))))) [(38, _)] ⟨.inr ⟨16, rfl, rfl⟩, trivial⟩ (fun sl hsl K hK => one_op rfl (ok_move rfl rfl rfl (hsl _ _ rfl) hK)) rfl rfl rfl ?_
          refine dq_cons (.p (eI r3.2)) [(5, _), (39, _)] ⟨.inl rfl, .inr ⟨17, rfl, rfl⟩, trivial⟩ (fun sl hsl K hK => one_yes (ok_move rfl rfl rfl (hsl _ _ rfl) hK) rfl rfl (hsl _ _ rfl) (dt c18)) rfl rfl rfl ?_
          refine dq_cons (.p (eB (decide (r3.2 = 0)))) [(39, _), (40, _)] ⟨.inr ⟨17, rfl, rfl⟩, .inr ⟨18, rfl, rfl⟩, trivial⟩ (fun sl hsl K hK => one_yes (ok_cmp rfl rfl rfl (hsl _ _ rfl) rfl rfl hK) rfl rfl (hsl _ _ rfl) (dt c18)) rfl rfl rfl ?_
          refine dq_cons (.p (eB (decide (r3.2 = 0)))) [(39, _), (41, _)] ⟨.inr ⟨17, rfl, rfl⟩, .inr ⟨19, rfl, rfl⟩, trivial⟩ (fun sl hsl K hK => one_op rfl (ok_pick_true rfl rfl rfl (hsl _ _ rfl) (dt c18) (hsl _ _ rfl) hK)) rfl rfl rfl ?_
          refine dq_cons (.p (eB (decide (r3.2 = 0)))) [(42, _)] ⟨.inr ⟨20, rfl, rfl⟩, trivial⟩ (fun sl hsl K hK => one_op rfl (ok_move rfl rfl rfl (hsl _ _ rfl) hK)) rfl rfl rfl ?_
          refine dq_cons (.p (eI r5.2)) [(7, _), (43, _)] ⟨.inl rfl, .inr ⟨21, rfl, rfl⟩, trivial⟩ (fun sl hsl K hK => one_yes (ok_move rfl rfl rfl (hsl _ _ rfl) hK) rfl rfl (hsl _ _ rfl) (dt c19)) rfl rfl rfl ?_
          refine dq_cons (.p (eB (decide (r5.2 = 2)))) [(43, _), (44, _)] ⟨.inr ⟨21, rfl, rfl⟩, .inr ⟨22, rfl, rfl⟩, trivial⟩ (fun sl hsl K hK => one_yes (ok_cmp rfl rfl rfl (hsl _ _ rfl) rfl rfl hK) rfl rfl (hsl _ _ rfl) (dt c19)) rfl rfl rfl ?_
          refine dq_cons (.p (eB (decide (r5.2 = 2)))) [(43, _), (45, _)] ⟨.inr ⟨21, rfl, rfl⟩, .inr ⟨23, rfl, rfl⟩, trivial⟩ (fun sl hsl K hK => one_op rfl (ok_pick_true rfl rfl rfl (hsl _ _ rfl) (dt c19) (hsl _ _ rfl) hK)) rfl rfl rfl ?_
          refine dq_cons (.p (eB (decide (r5.2 = 2)))) [(46, _)] ⟨.inr ⟨24, rfl, rfl⟩, trivial⟩ (fun sl hsl K hK => one_op rfl (ok_move rfl rfl rfl (hsl _ _ rfl) hK)) rfl rfl rfl ?_
          refine dq_cons (.p (eS ([109, 111, 100, 117, 108, 101, 46, 97, 91, 34, 120, 34, 93, 46, 115, 101, 114, 118, 101, 114, 46, 119, 101, 98, 91, 48, 93] : Bytes))) [(1, _), (47, _)] ⟨.inl rfl, .inr ⟨25, rfl, rfl⟩, trivial⟩ (fun sl hsl K hK => one_yes (ok_move rfl rfl rfl (hsl _ _ rfl) hK) rfl rfl (hsl _ _ rfl) (dt c20)) rfl rfl rfl ?_
          refine dq_cons (.p (eB r21)) [(47, _), (48, _)] ⟨.inr ⟨25, rfl, rfl⟩, .inr ⟨26, rfl, rfl⟩, trivial⟩ (fun sl hsl K hK => one_yes (ok_callP (address_Within_ok _ ([109, 111, 100, 117, 108, 101, 46, 97, 91, 34, 120, 34, 93, 46, 115, 101, 114, 118, 101, 114, 46, 119, 101, 98, 91, 48, 93] : Bytes) ([109, 111, 100, 117, 108, 101, 46, 97] : Bytes) _ e22) rfl rfl rfl (args_cons (hsl _ _ rfl) (args_cons rfl args_nil)) ⟨sr, sr, trivial⟩ Tryz.call20 rfl hK) rfl rfl (hsl _ _ rfl) (dt c20)) rfl rfl rfl ?_
          refine dq_cons (.p (eB r21)) [(47, _), (49, _)] ⟨.inr ⟨25, rfl, rfl⟩, .inr ⟨27, rfl, rfl⟩, trivial⟩ (fun sl hsl K hK => one_op rfl (ok_pick_true rfl rfl rfl (hsl _ _ rfl) (dt c20) (hsl _ _ rfl) hK)) rfl rfl rfl ?_
          refine dq_cons (.p (eB r21)) [(50, _)] ⟨.inr ⟨28, rfl, rfl⟩, trivial⟩ (fun sl hsl K hK => one_op rfl (ok_move rfl rfl rfl (hsl _ _ rfl) hK)) rfl rfl rfl ?_
          refine dq_cons (.p (eS ([109, 111, 100, 117, 108, 101, 46, 97, 91, 34, 120, 34, 93, 46, 115, 101, 114, 118, 101, 114, 46, 119, 101, 98, 91, 48, 93] : Bytes))) [(1, _), (51, _)] ⟨.inl rfl, .inr ⟨29, rfl, rfl⟩, trivial⟩ (fun sl hsl K hK => one_yes (ok_move rfl rfl rfl (hsl _ _ rfl) hK) rfl rfl (hsl _ _ rfl) (c23)) rfl rfl rfl ?_
          refine dq_cons (.p (eB r24)) [(51, _), (52, _)] ⟨.inr ⟨29, rfl, rfl⟩, .inr ⟨30, rfl, rfl⟩, trivial⟩ (fun sl hsl K hK => one_yes (ok_callP (address_Within_ok _ ([109, 111, 100, 117, 108, 101, 46, 97, 91, 34, 120, 34, 93, 46, 115, 101, 114, 118, 101, 114, 46, 119, 101, 98, 91, 48, 93] : Bytes) ([115, 101, 114, 118, 101, 114, 46, 119, 101, 98] : Bytes) _ e25) rfl rfl rfl (args_cons (hsl _ _ rfl) (args_cons rfl args_nil)) ⟨sr, sr, trivial⟩ Tryz.call20 rfl hK) rfl rfl (hsl _ _ rfl) (c23)) rfl rfl rfl ?_
          refine dq_cons (.p (eB (!r24))) [(51, _), (53, _)] ⟨.inr ⟨29, rfl, rfl⟩, .inr ⟨31, rfl, rfl⟩, trivial⟩ (fun sl hsl K hK => one_yes (ok_not rfl rfl rfl (hsl _ _ rfl) hK) rfl rfl (hsl _ _ rfl) (c23)) rfl rfl rfl ?_
          refine dq_cons (.p (eB (!r24))) [(51, _), (54, _)] ⟨.inr ⟨29, rfl, rfl⟩, .inr ⟨32, rfl, rfl⟩, trivial⟩ (fun sl hsl K hK => one_op rfl (ok_pick_true rfl rfl rfl (hsl _ _ rfl) (c23) (hsl _ _ rfl) hK)) rfl rfl rfl ?_
          refine dq_cons (.p (eB (!r24))) [(55, _)] ⟨.inr ⟨33, rfl, rfl⟩, trivial⟩ (fun sl hsl K hK => one_op rfl (ok_move rfl rfl rfl (hsl _ _ rfl) hK)) rfl rfl rfl ?_
          refine dq_cons (.p (.val Go.undef)) [(56, _)] ⟨.inr ⟨34, rfl, rfl⟩, trivial⟩ (fun sl hsl K hK => one_no rfl rfl (hsl _ _ rfl) (c26) rfl rfl hK) rfl rfl rfl ?_
          refine dq_cons (.p (eB false)) [(56, _), (57, _)] ⟨.inr ⟨34, rfl, rfl⟩, .inr ⟨35, rfl, rfl⟩, trivial⟩ (fun sl hsl K hK => one_op rfl (ok_pick_false rfl rfl rfl (hsl _ _ rfl) (c26) rfl hK)) rfl rfl rfl ?_
          refine dq_cons (.p (eB false)) [(58, _)] ⟨.inr ⟨36, rfl, rfl⟩, trivial⟩ (fun sl hsl K hK => one_op rfl (ok_move rfl rfl rfl (hsl _ _ rfl) hK)) rfl rfl rfl ?_
          refine dq_cons (.p (.val Go.undef)) [(59, _)] ⟨.inr ⟨37, rfl, rfl⟩, trivial⟩ (fun sl hsl K hK => one_no rfl rfl (hsl _ _ rfl) (rfl) rfl rfl hK) rfl rfl rfl ?_
          refine dq_cons (.p (.val Go.undef)) [(59, _), (60, _)] ⟨.inr ⟨37, rfl, rfl⟩, .inr ⟨38, rfl, rfl⟩, trivial⟩ (fun sl hsl K hK => one_no rfl rfl (hsl _ _ rfl) (rfl) rfl rfl hK) rfl rfl rfl ?_
          refine dq_cons (.p (eB false)) [(59, _), (61, _)] ⟨.inr ⟨37, rfl, rfl⟩, .inr ⟨39, rfl, rfl⟩, trivial⟩ (fun sl hsl K hK => one_op rfl (ok_pick_false rfl rfl rfl (hsl _ _ rfl) (rfl) rfl hK)) rfl rfl rfl ?_
          refine dq_cons (.p (eB false)) [(62, _)] ⟨.inr ⟨40, rfl, rfl⟩, trivial⟩ (fun sl hsl K hK => one_op rfl (ok_move rfl rfl rfl (hsl _ _ rfl) hK)) rfl rfl rfl ?_
          refine dq_cons (.p (.val Go.undef)) [(63, _)] ⟨.inr ⟨41, rfl, rfl⟩, trivial⟩ (fun sl hsl K hK => one_no rfl rfl (hsl _ _ rfl) (rfl) rfl rfl hK) rfl rfl rfl ?_
          refine dq_cons (.p (.val Go.undef)) [(63, _), (64, _)] ⟨.inr ⟨41, rfl, rfl⟩, .inr ⟨42, rfl, rfl⟩, trivial⟩ (fun sl hsl K hK => one_no rfl rfl (hsl _ _ rfl) (rfl) rfl rfl hK) rfl rfl rfl ?_
          refine dq_cons (.p (.val Go.undef)) [(63, _), (65, _)] ⟨.inr ⟨41, rfl, rfl⟩, .inr ⟨43, rfl, rfl⟩, trivial⟩ (fun sl hsl K hK => one_no rfl rfl (hsl _ _ rfl) (rfl) rfl rfl hK) rfl rfl rfl ?_
          refine dq_cons (.p (eB false)) [(63, _), (66, _)] ⟨.inr ⟨41, rfl, rfl⟩, .inr ⟨44, rfl, rfl⟩, trivial⟩ (fun sl hsl K hK => one_op rfl (ok_pick_false rfl rfl rfl (hsl _ _ rfl) (rfl) rfl hK)) rfl rfl rfl ?_
          refine dq_cons (.p (eB false)) [(67, _)] ⟨.inr ⟨45, rfl, rfl⟩, trivial⟩ (fun sl hsl K hK => one_op rfl (ok_assign rfl rfl rfl (hsl _ _ rfl) hK)) rfl rfl rfl ?_
          refine dq_nil ?_
          (repeat (first | refine uw ?_ | refine uo rfl ?_))
          have e1 := oi h1
          subst e1
          exact ghost_le (le_mk ⟨er rfl, trivial⟩ trivial)
        ·replace h1 := if_bf c23 h1
         refine awp_drawQ [(1, .p (eS ([109, 111, 100, 117, 108, 101, 46, 97, 91, 34, 120, 34, 93, 46, 115, 101, 114, 118, 101, 114, 46, 119, 101, 98, 91, 48, 93] : Bytes))), (2, .ptr 2 0), (3, .p (eI r1.2)), (4, .p (eS r3.1)), (5, .p (eI r3.2)), (7, .p (eI r5.2))] rfl ⟨rfl, rfl, rfl, rfl, rfl, rfl, trivial⟩ rfl ?_
         refine dq_cons (.p (.agg (TAddress.cs r7))) [] trivial (fun sl hsl K hK => one_op rfl (ok_callP (law06_example_ok  _ e8) rfl rfl rfl args_nil trivial Tryz.call24 rfl hK)) rfl rfl rfl ?_
         refine dq_cons (.p (eS r9)) [(22, _)] ⟨.inr ⟨0, rfl, rfl⟩, trivial⟩ (fun sl hsl K hK => one_op rfl (ok_callP (address_Format_ok _ r7 _ e10) rfl rfl rfl (args_cons (hsl _ _ rfl) args_nil) ⟨sr, trivial⟩ Tryz.call11 rfl hK)) rfl rfl rfl ?_
         refine dq_cons (.p (eS ([109, 111, 100, 117, 108, 101, 46, 97, 91, 34, 120, 34, 93, 46, 115, 101, 114, 118, 101, 114, 46, 119, 101, 98, 91, 48, 93] : Bytes))) [(1, _)] ⟨.inl rfl, trivial⟩ (fun sl hsl K hK => one_op rfl (ok_move rfl rfl rfl (hsl _ _ rfl) hK)) rfl rfl rfl ?_
         refine dq_cons (.p (eB (decide (r9 = ([109, 111, 100, 117, 108, 101, 46, 97, 91, 34, 120, 34, 93, 46, 115, 101, 114, 118, 101, 114, 46, 119, 101, 98, 91, 48, 93] : Bytes))))) [(23, _), (24, _)] ⟨.inr ⟨1, rfl, rfl⟩, .inr ⟨2, rfl, rfl⟩, trivial⟩ (fun sl hsl K hK => one_op rfl (ok_cmpS rfl rfl rfl (hsl _ _ rfl) (hsl _ _ rfl) rfl hK)) rfl rfl rfl ?_
         refine dq_cons (.p (eB (decide (r9 = ([109, 111, 100, 117, 108, 101, 46, 97, 91, 34, 120, 34, 93, 46, 115, 101, 114, 118, 101, 114, 46, 119, 101, 98, 91, 48, 93] : Bytes))))) [(25, _)] ⟨.inr ⟨3, rfl, rfl⟩, trivial⟩ (fun sl hsl K hK => one_op rfl (ok_move rfl rfl rfl (hsl _ _ rfl) hK)) rfl rfl rfl ?_
         refine dq_cons (.p (eI r1.2)) [(3, _), (26, _)] ⟨.inl rfl, .inr ⟨4, rfl, rfl⟩, trivial⟩ (fun sl hsl K hK => one_yes (ok_move rfl rfl rfl (hsl _ _ rfl) hK) rfl rfl (hsl _ _ rfl) (dt c11)) rfl rfl rfl ?_
         refine dq_cons (.p (eB (decide (r1.2 = 0)))) [(26, _), (27, _)] ⟨.inr ⟨4, rfl, rfl⟩, .inr ⟨5, rfl, rfl⟩, trivial⟩ (fun sl hsl K hK => one_yes (ok_cmp rfl rfl rfl (hsl _ _ rfl) rfl rfl hK) rfl rfl (hsl _ _ rfl) (dt c11)) rfl rfl rfl ?_
         refine dq_cons (.p (eB (decide (r1.2 = 0)))) [(26, _), (28, _)] ⟨.inr ⟨4, rfl, rfl⟩, .inr ⟨6, rfl, rfl⟩, trivial⟩ (fun sl hsl K hK => one_op rfl (ok_pick_true rfl rfl rfl (hsl _ _ rfl) (dt c11) (hsl _ _ rfl) hK)) rfl rfl rfl ?_
         refine dq_cons (.p (eB (decide (r1.2 = 0)))) [(29, _)] ⟨.inr ⟨7, rfl, rfl⟩, trivial⟩ (fun sl hsl K hK => one_op rfl (ok_move rfl rfl rfl (hsl _ _ rfl) hK)) rfl rfl rfl ?_
         refine dq_cons (.p (.agg (TAddress.cs r1.1))) [(2, _), (30, _)] ⟨.inl rfl, .inr ⟨8, rfl, rfl⟩, trivial⟩ (fun sl hsl K hK => one_yes (ok_loadPA rfl rfl rfl rfl rfl (hsl _ _ rfl) rfl rfl rfl hK) rfl rfl (hsl _ _ rfl) (dt c12)) rfl rfl rfl ?_
         refine dq_cons (.p (.agg (TAddress.cs r13))) [(30, _)] ⟨.inr ⟨8, rfl, rfl⟩, trivial⟩ (fun sl hsl K hK => one_yes (ok_callP (law06_example_ok  _ e14) rfl rfl rfl args_nil trivial Tryz.call24 rfl hK) rfl rfl (hsl _ _ rfl) (dt c12)) rfl rfl rfl ?_
         refine dq_cons (.p (eB r15)) [(30, _), (31, _), (32, _)] ⟨.inr ⟨8, rfl, rfl⟩, .inr ⟨9, rfl, rfl⟩, .inr ⟨10, rfl, rfl⟩, trivial⟩ (fun sl hsl K hK => one_yes (ok_callP (law06_Same_ok _ r1.1 r13 _ e16) rfl rfl rfl (args_cons (hsl _ _ rfl) (args_cons (hsl _ _ rfl) args_nil)) ⟨sr, sr, trivial⟩ Tryz.call19 rfl hK) rfl rfl (hsl _ _ rfl) (dt c12)) rfl rfl rfl ?_
         refine dq_cons (.p (eB r15)) [(30, _), (33, _)] ⟨.inr ⟨8, rfl, rfl⟩, .inr ⟨11, rfl, rfl⟩, trivial⟩ (fun sl hsl K hK => one_op rfl (ok_pick_true rfl rfl rfl (hsl _ _ rfl) (dt c12) (hsl _ _ rfl) hK)) rfl rfl rfl ?_
         refine dq_cons (.p (eB r15)) [(34, _)] ⟨.inr ⟨12, rfl, rfl⟩, trivial⟩ (fun sl hsl K hK => one_op rfl (ok_move rfl rfl rfl (hsl _ _ rfl) hK)) rfl rfl rfl ?_
         refine dq_cons (.p (eS r3.1)) [(4, _), (35, _)] ⟨.inl rfl, .inr ⟨13, rfl, rfl⟩, trivial⟩ (fun sl hsl K hK => one_yes (ok_move rfl rfl rfl (hsl _ _ rfl) hK) rfl rfl (hsl _ _ rfl) (c17)) rfl rfl rfl ?_
         refine dq_cons (.p (eB (decide (r3.1 = ([109, 111, 100, 117, 108, 101, 46, 97, 46, 115, 101, 114, 118, 101, 114, 46, 119, 101, 98] : Bytes))))) [(35, _), (36, _)] ⟨.inr ⟨13, rfl, rfl⟩, .inr ⟨14, rfl, rfl⟩, trivial⟩ (fun sl hsl K hK => one_yes (ok_cmpS rfl rfl rfl (hsl _ _ rfl) rfl rfl hK) rfl rfl (hsl _ _ rfl) (c17)) rfl rfl rfl ?_
         refine dq_cons (.p (eB (decide (r3.1 = ([109, 111, 100, 117, 108, 101, 46, 97, 46, 115, 101, 114, 118, 101, 114, 46, 119, 101, 98] : Bytes))))) [(35, _), (37, _)] ⟨.inr ⟨13, rfl, rfl⟩, .inr ⟨15, rfl, rfl⟩, trivial⟩ (fun sl hsl K hK => one_op rfl (ok_pick_true rfl rfl rfl (hsl _ _ rfl) (c17) (hsl _ _ rfl) hK)) rfl rfl rfl ?_
         refine dq_cons (.p (eB (decide (r3.1 = ([109, 111, 100, 117, 108, 101, 46, 97, 46, 115, 101, 114, 118, 101, 114, 46, 119, 101, 98] : Bytes))))) [(38, _)] ⟨.inr ⟨16, rfl, rfl⟩, trivial⟩ (fun sl hsl K hK => one_op rfl (ok_move rfl rfl rfl (hsl _ _ rfl) hK)) rfl rfl rfl ?_
         refine dq_cons (.p (eI r3.2)) [(5, _), (39, _)] ⟨.inl rfl, .inr ⟨17, rfl, rfl⟩, trivial⟩ (fun sl hsl K hK => one_yes (ok_move rfl rfl rfl (hsl _ _ rfl) hK) rfl rfl (hsl _ _ rfl) (dt c18)) rfl rfl rfl ?_
         refine dq_cons (.p (eB (decide (r3.2 = 0)))) [(39, _), (40, _)] ⟨.inr ⟨17, rfl, rfl⟩, .inr ⟨18, rfl, rfl⟩, trivial⟩ (fun sl hsl K hK => one_yes (ok_cmp rfl rfl rfl (hsl _ _ rfl) rfl rfl hK) rfl rfl (hsl _ _ rfl) (dt c18)) rfl rfl rfl ?_
         refine dq_cons (.p (eB (decide (r3.2 = 0)))) [(39, _), (41, _)] ⟨.inr ⟨17, rfl, rfl⟩, .inr ⟨19, rfl, rfl⟩, trivial⟩ (fun sl hsl K hK => one_op rfl (ok_pick_true rfl rfl rfl (hsl _ _ rfl) (dt c18) (hsl _ _ rfl) hK)) rfl rfl rfl ?_
         refine dq_cons (.p (eB (decide (r3.2 = 0)))) [(42, _)] ⟨.inr ⟨20, rfl, rfl⟩, trivial⟩ (fun sl hsl K hK => one_op rfl (ok_move rfl rfl rfl (hsl _ _ rfl) hK)) rfl rfl rfl ?_
         refine dq_cons (.p (eI r5.2)) [(7, _), (43, _)] ⟨.inl rfl, .inr ⟨21, rfl, rfl⟩, trivial⟩ (fun sl hsl K hK => one_yes (ok_move rfl rfl rfl (hsl _ _ rfl) hK) rfl rfl (hsl _ _ rfl) (dt c19)) rfl rfl rfl ?_
         refine dq_cons (.p (eB (decide (r5.2 = 2)))) [(43, _), (44, _)] ⟨.inr ⟨21, rfl, rfl⟩, .inr ⟨22, rfl, rfl⟩, trivial⟩ (fun sl hsl K hK => one_yes (ok_cmp rfl rfl rfl (hsl _ _ rfl) rfl rfl hK) rfl rfl (hsl _ _ rfl) (dt c19)) rfl rfl rfl ?_
         refine dq_cons (.p (eB (decide (r5.2 = 2)))) [(43, _), (45, _)] ⟨.inr ⟨21, rfl, rfl⟩, .inr ⟨23, rfl, rfl⟩, trivial⟩ (fun sl hsl K hK => one_op rfl (ok_pick_true rfl rfl rfl (hsl _ _ rfl) (dt c19) (hsl _ _ rfl) hK)) rfl rfl rfl ?_
         refine dq_cons (.p (eB (decide (r5.2 = 2)))) [(46, _)] ⟨.inr ⟨24, rfl, rfl⟩, trivial⟩ (fun sl hsl K hK => one_op rfl (ok_move rfl rfl rfl (hsl _ _ rfl) hK)) rfl rfl rfl ?_
         refine dq_cons (.p (eS ([109, 111, 100, 117, 108, 101, 46, 97, 91, 34, 120, 34, 93, 46, 115, 101, 114, 118, 101, 114, 46, 119, 101, 98, 91, 48, 93] : Bytes))) [(1, _), (47, _)] ⟨.inl rfl, .inr ⟨25, rfl, rfl⟩, trivial⟩ (fun sl hsl K hK => one_yes (ok_move rfl rfl rfl (hsl _ _ rfl) hK) rfl rfl (hsl _ _ rfl) (dt c20)) rfl rfl rfl ?_
         refine dq_cons (.p (eB r21)) [(47, _), (48, _)] ⟨.inr ⟨25, rfl, rfl⟩, .inr ⟨26, rfl, rfl⟩, trivial⟩ (fun sl hsl K hK => one_yes (ok_callP (address_Within_ok _ ([109, 111, 100, 117, 108, 101, 46, 97, 91, 34, 120, 34, 93, 46, 115, 101, 114, 118, 101, 114, 46, 119, 101, 98, 91, 48, 93] : Bytes) ([109, 111, 100, 117, 108, 101, 46, 97] : Bytes) _ e22) rfl rfl rfl (args_cons (hsl _ _ rfl) (args_cons rfl args_nil)) ⟨sr, sr, trivial⟩ Tryz.call20 rfl hK) rfl rfl (hsl _ _ rfl) (dt c20)) rfl rfl rfl ?_
         refine dq_cons (.p (eB r21)) [(47, _), (49, _)] ⟨.inr ⟨25, rfl, rfl⟩, .inr ⟨27, rfl, rfl⟩, trivial⟩ (fun sl hsl K hK => one_op rfl (ok_pick_true rfl rfl rfl (hsl _ _ rfl) (dt c20) (hsl _ _ rfl) hK)) rfl rfl rfl ?_
         refine dq_cons (.p (eB r21)) [(50, _)] ⟨.inr ⟨28, rfl, rfl⟩, trivial⟩ (fun sl hsl K hK => one_op rfl (ok_move rfl rfl rfl (hsl _ _ rfl) hK)) rfl rfl rfl ?_
         refine dq_cons (.p (.val Go.undef)) [(1, _), (51, _)] ⟨.inl rfl, .inr ⟨29, rfl, rfl⟩, trivial⟩ (fun sl hsl K hK => one_no rfl rfl (hsl _ _ rfl) (c23) rfl rfl hK) rfl rfl rfl ?_
         refine dq_cons (.p (.val Go.undef)) [(51, _), (52, _)] ⟨.inr ⟨29, rfl, rfl⟩, .inr ⟨30, rfl, rfl⟩, trivial⟩ (fun sl hsl K hK => one_no rfl rfl (hsl _ _ rfl) (c23) rfl rfl hK) rfl rfl rfl ?_
         refine dq_cons (.p (.val Go.undef)) [(51, _), (53, _)] ⟨.inr ⟨29, rfl, rfl⟩, .inr ⟨31, rfl, rfl⟩, trivial⟩ (fun sl hsl K hK => one_no rfl rfl (hsl _ _ rfl) (c23) rfl rfl hK) rfl rfl rfl ?_
         refine dq_cons (.p (eB false)) [(51, _), (54, _)] ⟨.inr ⟨29, rfl, rfl⟩, .inr ⟨32, rfl, rfl⟩, trivial⟩ (fun sl hsl K hK => one_op rfl (ok_pick_false rfl rfl rfl (hsl _ _ rfl) (c23) rfl hK)) rfl rfl rfl ?_
         refine dq_cons (.p (eB false)) [(55, _)] ⟨.inr ⟨33, rfl, rfl⟩, trivial⟩ (fun sl hsl K hK => one_op rfl (ok_move rfl rfl rfl (hsl _ _ rfl) hK)) rfl rfl rfl ?_
         refine dq_cons (.p (.val Go.undef)) [(56, _)] ⟨.inr ⟨34, rfl, rfl⟩, trivial⟩ (fun sl hsl K hK => one_no rfl rfl (hsl _ _ rfl) (rfl) rfl rfl hK) rfl rfl rfl ?_
         refine dq_cons (.p (eB false)) [(56, _), (57, _)] ⟨.inr ⟨34, rfl, rfl⟩, .inr ⟨35, rfl, rfl⟩, trivial⟩ (fun sl hsl K hK => one_op rfl (ok_pick_false rfl rfl rfl (hsl _ _ rfl) (rfl) rfl hK)) rfl rfl rfl ?_
         refine dq_cons (.p (eB false)) [(58, _)] ⟨.inr ⟨36, rfl, rfl⟩, trivial⟩ (fun sl hsl K hK => one_op rfl (ok_move rfl rfl rfl (hsl _ _ rfl) hK)) rfl rfl rfl ?_
         refine dq_cons (.p (.val Go.undef)) [(59, _)] ⟨.inr ⟨37, rfl, rfl⟩, trivial⟩ (fun sl hsl K hK => one_no rfl rfl (hsl _ _ rfl) (rfl) rfl rfl hK) rfl rfl rfl ?_
         refine dq_cons (.p (.val Go.undef)) [(59, _), (60, _)] ⟨.inr ⟨37, rfl, rfl⟩, .inr ⟨38, rfl, rfl⟩, trivial⟩ (fun sl hsl K hK => one_no rfl rfl (hsl _ _ rfl) (rfl) rfl rfl hK) rfl rfl rfl ?_
         refine dq_cons (.p (eB false)) [(59, _), (61, _)] ⟨.inr ⟨37, rfl, rfl⟩, .inr ⟨39, rfl, rfl⟩, trivial⟩ (fun sl hsl K hK => one_op rfl (ok_pick_false rfl rfl rfl (hsl _ _ rfl) (rfl) rfl hK)) rfl rfl rfl ?_
         refine dq_cons (.p (eB false)) [(62, _)] ⟨.inr ⟨40, rfl, rfl⟩, trivial⟩ (fun sl hsl K hK => one_op rfl (ok_move rfl rfl rfl (hsl _ _ rfl) hK)) rfl rfl rfl ?_
         refine dq_cons (.p (.val Go.undef)) [(63, _)] ⟨.inr ⟨41, rfl, rfl⟩, trivial⟩ (fun sl hsl K hK => one_no rfl rfl (hsl _ _ rfl) (rfl) rfl rfl hK) rfl rfl rfl ?_
         refine dq_cons (.p (.val Go.undef)) [(63, _), (64, _)] ⟨.inr ⟨41, rfl, rfl⟩, .inr ⟨42, rfl, rfl⟩, trivial⟩ (fun sl hsl K hK => one_no rfl rfl (hsl _ _ rfl) (rfl) rfl rfl hK) rfl rfl rfl ?_
         refine dq_cons (.p (.val Go.undef)) [(63, _), (65, _)] ⟨.inr ⟨41, rfl, rfl⟩, .inr ⟨43, rfl, rfl⟩, trivial⟩ (fun sl hsl K hK => one_no rfl rfl (hsl _ _ rfl) (rfl) rfl rfl hK) rfl rfl rfl ?_
         refine dq_cons (.p (eB false)) [(63, _), (66, _)] ⟨.inr ⟨41, rfl, rfl⟩, .inr ⟨44, rfl, rfl⟩, trivial⟩ (fun sl hsl K hK => one_op rfl (ok_pick_false rfl rfl rfl (hsl _ _ rfl) (rfl) rfl hK)) rfl rfl rfl ?_
         refine dq_cons (.p (eB false)) [(67, _)] ⟨.inr ⟨45, rfl, rfl⟩, trivial⟩ (fun sl hsl K hK => one_op rfl (ok_assign rfl rfl rfl (hsl _ _ rfl) hK)) rfl rfl rfl ?_
         refine dq_nil ?_
         (repeat (first | refine uw ?_ | refine uo rfl ?_))
         have e1 := oi h1
         subst e1
         exact ghost_le (le_mk ⟨er rfl, trivial⟩ trivial)
       ·replace h1 := if_f c20 h1
        refine awp_drawQ [(1, .p (eS ([109, 111, 100, 117, 108, 101, 46, 97, 91, 34, 120, 34, 93, 46, 115, 101, 114, 118, 101, 114, 46, 119, 101, 98, 91, 48, 93] : Bytes))), (2, .ptr 2 0), (3, .p (eI r1.2)), (4, .p (eS r3.1)), (5, .p (eI r3.2)), (7, .p (eI r5.2))] rfl ⟨rfl, rfl, rfl, rfl, rfl, rfl, trivial⟩ rfl ?_
        refine dq_cons (.p (.agg (TAddress.cs r7))) [] trivial (fun sl hsl K hK => one_op rfl (ok_callP (law06_example_ok  _ e8) rfl rfl rfl args_nil trivial Tryz.call24 rfl hK)) rfl rfl rfl ?_
        refine dq_cons (.p (eS r9)) [(22, _)] ⟨.inr ⟨0, rfl, rfl⟩, trivial⟩ (fun sl hsl K hK => one_op rfl (ok_callP (address_Format_ok _ r7 _ e10) rfl rfl rfl (args_cons (hsl _ _ rfl) args_nil) ⟨sr, trivial⟩ Tryz.call11 rfl hK)) rfl rfl rfl ?_
        refine dq_cons (.p (eS ([109, 111, 100, 117, 108, 101, 46, 97, 91, 34, 120, 34, 93, 46, 115, 101, 114, 118, 101, 114, 46, 119, 101, 98, 91, 48, 93] : Bytes))) [(1, _)] ⟨.inl rfl, trivial⟩ (fun sl hsl K hK => one_op rfl (ok_move rfl rfl rfl (hsl _ _ rfl) hK)) rfl rfl rfl ?_
        refine dq_cons (.p (eB (decide (r9 = ([109, 111, 100, 117, 108, 101, 46, 97, 91, 34, 120, 34, 93, 46, 115, 101, 114, 118, 101, 114, 46, 119, 101, 98, 91, 48, 93] : Bytes))))) [(23, _), (24, _)] ⟨.inr ⟨1, rfl, rfl⟩, .inr ⟨2, rfl, rfl⟩, trivial⟩ (fun sl hsl K hK => one_op rfl (ok_cmpS rfl rfl rfl (hsl _ _ rfl) (hsl _ _ rfl) rfl hK)) rfl rfl rfl ?_
        refine dq_cons (.p (eB (decide (r9 = ([109, 111, 100, 117, 108, 101, 46, 97, 91, 34, 120, 34, 93, 46, 115, 101, 114, 118, 101, 114, 46, 119, 101, 98, 91, 48, 93] : Bytes))))) [(25, _)] ⟨.inr ⟨3, rfl, rfl⟩, trivial⟩ (fun sl hsl K hK => one_op rfl (ok_move rfl rfl rfl (hsl _ _ rfl) hK)) rfl rfl rfl ?_
        refine dq_cons (.p (eI r1.2)) [(3, _), (26, _)] ⟨.inl rfl, .inr ⟨4, rfl, rfl⟩, trivial⟩ (fun sl hsl K hK => one_yes (ok_move rfl rfl rfl (hsl _ _ rfl) hK) rfl rfl (hsl _ _ rfl) (dt c11)) rfl rfl rfl ?_
        refine dq_cons (.p (eB (decide (r1.2 = 0)))) [(26, _), (27, _)] ⟨.inr ⟨4, rfl, rfl⟩, .inr ⟨5, rfl, rfl⟩, trivial⟩ (fun sl hsl K hK => one_yes (ok_cmp rfl rfl rfl (hsl _ _ rfl) rfl rfl hK) rfl rfl (hsl _ _ rfl) (dt c11)) rfl rfl rfl ?_
        refine dq_cons (.p (eB (decide (r1.2 = 0)))) [(26, _), (28, _)] ⟨.inr ⟨4, rfl, rfl⟩, .inr ⟨6, rfl, rfl⟩, trivial⟩ (fun sl hsl K hK => one_op rfl (ok_pick_true rfl rfl rfl (hsl _ _ rfl) (dt c11) (hsl _ _ rfl) hK)) rfl rfl rfl ?_
        refine dq_cons (.p (eB (decide (r1.2 = 0)))) [(29, _)] ⟨.inr ⟨7, rfl, rfl⟩, trivial⟩ (fun sl hsl K hK => one_op rfl (ok_move rfl rfl rfl (hsl _ _ rfl) hK)) rfl rfl rfl ?_
        refine dq_cons (.p (.agg (TAddress.cs r1.1))) [(2, _), (30, _)] ⟨.inl rfl, .inr ⟨8, rfl, rfl⟩, trivial⟩ (fun sl hsl K hK => one_yes (ok_loadPA rfl rfl rfl rfl rfl (hsl _ _ rfl) rfl rfl rfl hK) rfl rfl (hsl _ _ rfl) (dt c12)) rfl rfl rfl ?_
        refine dq_cons (.p (.agg (TAddress.cs r13))) [(30, _)] ⟨.inr ⟨8, rfl, rfl⟩, trivial⟩ (fun sl hsl K hK => one_yes (ok_callP (law06_example_ok  _ e14) rfl rfl rfl args_nil trivial Tryz.call24 rfl hK) rfl rfl (hsl _ _ rfl) (dt c12)) rfl rfl rfl ?_
        refine dq_cons (.p (eB r15)) [(30, _), (31, _), (32, _)] ⟨.inr ⟨8, rfl, rfl⟩, .inr ⟨9, rfl, rfl⟩, .inr ⟨10, rfl, rfl⟩, trivial⟩ (fun sl hsl K hK => one_yes (ok_callP (law06_Same_ok _ r1.1 r13 _ e16) rfl rfl rfl (args_cons (hsl _ _ rfl) (args_cons (hsl _ _ rfl) args_nil)) ⟨sr, sr, trivial⟩ Tryz.call19 rfl hK) rfl rfl (hsl _ _ rfl) (dt c12)) rfl rfl rfl ?_
        refine dq_cons (.p (eB r15)) [(30, _), (33, _)] ⟨.inr ⟨8, rfl, rfl⟩, .inr ⟨11, rfl, rfl⟩, trivial⟩ (fun sl hsl K hK => one_op rfl (ok_pick_true rfl rfl rfl (hsl _ _ rfl) (dt c12) (hsl _ _ rfl) hK)) rfl rfl rfl ?_
        refine dq_cons (.p (eB r15)) [(34, _)] ⟨.inr ⟨12, rfl, rfl⟩, trivial⟩ (fun sl hsl K hK => one_op rfl (ok_move rfl rfl rfl (hsl _ _ rfl) hK)) rfl rfl rfl ?_
        refine dq_cons (.p (eS r3.1)) [(4, _), (35, _)] ⟨.inl rfl, .inr ⟨13, rfl, rfl⟩, trivial⟩ (fun sl hsl K hK => one_yes (ok_move rfl rfl rfl (hsl _ _ rfl) hK) rfl rfl (hsl _ _ rfl) (c17)) rfl rfl rfl ?_
        refine dq_cons (.p (eB (decide (r3.1 = ([109, 111, 100, 117, 108, 101, 46, 97, 46, 115, 101, 114, 118, 101, 114, 46, 119, 101, 98] : Bytes))))) [(35, _), (36, _)] ⟨.inr ⟨13, rfl, rfl⟩, .inr ⟨14, rfl, rfl⟩, trivial⟩ (fun sl hsl K hK => one_yes (ok_cmpS rfl rfl rfl (hsl _ _ rfl) rfl rfl hK) rfl rfl (hsl _ _ rfl) (c17)) rfl rfl rfl ?_
        refine dq_cons (.p (eB (decide (r3.1 = ([109, 111, 100, 117, 108, 101, 46, 97, 46, 115, 101, 114, 118, 101, 114, 46, 119, 101, 98] : Bytes))))) [(35, _), (37, _)] ⟨.inr ⟨13, rfl, rfl⟩, .inr ⟨15, rfl, rfl⟩, trivial⟩ (fun sl hsl K hK => one_op rfl (ok_pick_true rfl rfl rfl (hsl _ _ rfl) (c17) (hsl _ _ rfl) hK)) rfl rfl rfl ?_
        refine dq_cons (.p (eB (decide (r3.1 = ([109, 111, 100, 117, 108, 101, 46, 97, 46, 115, 101, 114, 118, 101, 114, 46, 119, 101, 98] : Bytes))))) [(38, _)] ⟨.inr ⟨16, rfl, rfl⟩, trivial⟩ (fun sl hsl K hK => one_op rfl (ok_move rfl rfl rfl (hsl _ _ rfl) hK)) rfl rfl rfl ?_
        refine dq_cons (.p (eI r3.2)) [(5, _), (39, _)] ⟨.inl rfl, .inr ⟨17, rfl, rfl⟩, trivial⟩ (fun sl hsl K hK => one_yes (ok_move rfl rfl rfl (hsl _ _ rfl) hK) rfl rfl (hsl _ _ rfl) (dt c18)) rfl rfl rfl ?_
        refine dq_cons (.p (eB (decide (r3.2 = 0)))) [(39, _), (40, _)] ⟨.inr ⟨17, rfl, rfl⟩, .inr ⟨18, rfl, rfl⟩, trivial⟩ (fun sl hsl K hK => one_yes (ok_cmp rfl rfl rfl (hsl _ _ rfl) rfl rfl hK) rfl rfl (hsl _ _ rfl) (dt c18)) rfl rfl rfl ?_
        refine dq_cons (.p (eB (decide (r3.2 = 0)))) [(39, _), (41, _)] ⟨.inr ⟨17, rfl, rfl⟩, .inr ⟨19, rfl, rfl⟩, trivial⟩ (fun sl hsl K hK => one_op rfl (ok_pick_true rfl rfl rfl (hsl _ _ rfl) (dt c18) (hsl _ _ rfl) hK)) rfl rfl rfl ?_
        refine dq_cons (.p (eB (decide (r3.2 = 0)))) [(42, _)] ⟨.inr ⟨20, rfl, rfl⟩, trivial⟩ (fun sl hsl K hK => one_op rfl (ok_move rfl rfl rfl (hsl _ _ rfl) hK)) rfl rfl rfl ?_
        refine dq_cons (.p (eI r5.2)) [(7, _), (43, _)] ⟨.inl rfl, .inr ⟨21, rfl, rfl⟩, trivial⟩ (fun sl hsl K hK => one_yes (ok_move rfl rfl rfl (hsl _ _ rfl) hK) rfl rfl (hsl _ _ rfl) (dt c19)) rfl rfl rfl ?_
        refine dq_cons (.p (eB (decide (r5.2 = 2)))) [(43, _), (44, _)] ⟨.inr ⟨21, rfl, rfl⟩, .inr ⟨22, rfl, rfl⟩, trivial⟩ (fun sl hsl K hK => one_yes (ok_cmp rfl rfl rfl (hsl _ _ rfl) rfl rfl hK) rfl rfl (hsl _ _ rfl) (dt c19)) rfl rfl rfl ?_
        refine dq_cons (.p (eB (decide (r5.2 = 2)))) [(43, _), (45, _)] ⟨.inr ⟨21, rfl, rfl⟩, .inr ⟨23, rfl, rfl⟩, trivial⟩ (fun sl hsl K hK => one_op rfl (ok_pick_true rfl rfl rfl (hsl _ _ rfl) (dt c19) (hsl _ _ rfl) hK)) rfl rfl rfl ?_
        refine dq_cons (.p (eB (decide (r5.2 = 2)))) [(46, _)] ⟨.inr ⟨24, rfl, rfl⟩, trivial⟩ (fun sl hsl K hK => one_op rfl (ok_move rfl rfl rfl (hsl _ _ rfl) hK)) rfl rfl rfl ?_
        refine dq_cons (.p (.val Go.undef)) [(1, _), (47, _)] ⟨.inl rfl, .inr ⟨25, rfl, rfl⟩, trivial⟩ (fun sl hsl K hK => one_no rfl rfl (hsl _ _ rfl) (df c20) rfl rfl hK) rfl rfl rfl ?_
        refine dq_cons (.p (.val Go.undef)) [(47, _), (48, _)] ⟨.inr ⟨25, rfl, rfl⟩, .inr ⟨26, rfl, rfl⟩, trivial⟩ (fun sl hsl K hK => one_no rfl rfl (hsl _ _ rfl) (df c20) rfl rfl hK) rfl rfl rfl ?_
        refine dq_cons (.p (eB false)) [(47, _), (49, _)] ⟨.inr ⟨25, rfl, rfl⟩, .inr ⟨27, rfl, rfl⟩, trivial⟩ (fun sl hsl K hK => one_op rfl (ok_pick_false rfl rfl rfl (hsl _ _ rfl) (df c20) rfl hK)) rfl rfl rfl ?_
        refine dq_cons (.p (eB false)) [(50, _)] ⟨.inr ⟨28, rfl, rfl⟩, trivial⟩ (fun sl hsl K hK => one_op rfl (ok_move rfl rfl rfl (hsl _ _ rfl) hK)) rfl rfl rfl ?_
        refine dq_cons (.p (.val Go.undef)) [(1, _), (51, _)] ⟨.inl rfl, .inr ⟨29, rfl, rfl⟩, trivial⟩ (fun sl hsl K hK => one_no rfl rfl (hsl _ _ rfl) (rfl) rfl rfl hK) rfl rfl rfl ?_
        refine dq_cons (.p (.val Go.undef)) [(51, _), (52, _)] ⟨.inr ⟨29, rfl, rfl⟩, .inr ⟨30, rfl, rfl⟩, trivial⟩ (fun sl hsl K hK => one_no rfl rfl (hsl _ _ rfl) (rfl) rfl rfl hK) rfl rfl rfl ?_
        refine dq_cons (.p (.val Go.undef)) [(51, _), (53, _)] ⟨.inr ⟨29, rfl, rfl⟩, .inr ⟨31, rfl, rfl⟩, trivial⟩ (fun sl hsl K hK => one_no rfl rfl (hsl _ _ rfl) (rfl) rfl rfl hK) rfl rfl rfl ?_
        refine dq_cons (.p (eB false)) [(51, _), (54, _)] ⟨.inr ⟨29, rfl, rfl⟩, .inr ⟨32, rfl, rfl⟩, trivial⟩ (fun sl hsl K hK => one_op rfl (ok_pick_false rfl rfl rfl (hsl _ _ rfl) (rfl) rfl hK)) rfl rfl rfl ?_
        refine dq_cons (.p (eB false)) [(55, _)] ⟨.inr ⟨33, rfl, rfl⟩, trivial⟩ (fun sl hsl K hK => one_op rfl (ok_move rfl rfl rfl (hsl _ _ rfl) hK)) rfl rfl rfl ?_
        refine dq_cons (.p (.val Go.undef)) [(56, _)] ⟨.inr ⟨34, rfl, rfl⟩, trivial⟩ (fun sl hsl K hK => one_no rfl rfl (hsl _ _ rfl) (rfl) rfl rfl hK) rfl rfl rfl ?_
        refine dq_cons (.p (eB false)) [(56, _), (57, _)] ⟨.inr ⟨34, rfl, rfl⟩, .inr ⟨35, rfl, rfl⟩, trivial⟩ (fun sl hsl K hK => one_op rfl (ok_pick_false rfl rfl rfl (hsl _ _ rfl) (rfl) rfl hK)) rfl rfl rfl ?_
        refine dq_cons (.p (eB false)) [(58, _)] ⟨.inr ⟨36, rfl, rfl⟩, trivial⟩ (fun sl hsl K hK => one_op rfl (ok_move rfl rfl rfl (hsl _ _ rfl) hK)) rfl rfl rfl ?_
        refine dq_cons (.p (.val Go.undef)) [(59, _)] ⟨.inr ⟨37, rfl, rfl⟩, trivial⟩ (fun sl hsl K hK => one_no rfl rfl (hsl _ _ rfl) (rfl) rfl rfl hK) rfl rfl rfl ?_
        refine dq_cons (.p (.val Go.undef)) [(59, _), (60, _)] ⟨.inr ⟨37, rfl, rfl⟩, .inr ⟨38, rfl, rfl⟩, trivial⟩ (fun sl hsl K hK => one_no rfl rfl (hsl _ _ rfl) (rfl) rfl rfl hK) rfl rfl rfl ?_
        refine dq_cons (.p (eB false)) [(59, _), (61, _)] ⟨.inr ⟨37, rfl, rfl⟩, .inr ⟨39, rfl, rfl⟩, trivial⟩ (fun sl hsl K hK => one_op rfl (ok_pick_false rfl rfl rfl (hsl _ _ rfl) (rfl) rfl hK)) rfl rfl rfl ?_
        refine dq_cons (.p (eB false)) [(62, _)] ⟨.inr ⟨40, rfl, rfl⟩, trivial⟩ (fun sl hsl K hK => one_op rfl (ok_move rfl rfl rfl (hsl _ _ rfl) hK)) rfl rfl rfl ?_
        refine dq_cons (.p (.val Go.undef)) [(63, _)] ⟨.inr ⟨41, rfl, rfl⟩, trivial⟩ (fun sl hsl K hK => one_no rfl rfl (hsl _ _ rfl) (rfl) rfl rfl hK) rfl rfl rfl ?_
        refine dq_cons (.p (.val Go.undef)) [(63, _), (64, _)] ⟨.inr ⟨41, rfl, rfl⟩, .inr ⟨42, rfl, rfl⟩, trivial⟩ (fun sl hsl K hK => one_no rfl rfl (hsl _ _ rfl) (rfl) rfl rfl hK) rfl rfl rfl ?_
        refine dq_cons (.p (.val Go.undef)) [(63, _), (65, _)] ⟨.inr ⟨41, rfl, rfl⟩, .inr ⟨43, rfl, rfl⟩, trivial⟩ (fun sl hsl K hK => one_no rfl rfl (hsl _ _ rfl) (rfl) rfl rfl hK) rfl rfl rfl ?_
        refine dq_cons (.p (eB false)) [(63, _), (66, _)] ⟨.inr ⟨41, rfl, rfl⟩, .inr ⟨44, rfl, rfl⟩, trivial⟩ (fun sl hsl K hK => one_op rfl (ok_pick_false rfl rfl rfl (hsl _ _ rfl) (rfl) rfl hK)) rfl rfl rfl ?_
        refine dq_cons (.p (eB false)) [(67, _)] ⟨.inr ⟨45, rfl, rfl⟩, trivial⟩ (fun sl hsl K hK => one_op rfl (ok_assign rfl rfl rfl (hsl _ _ rfl) hK)) rfl rfl rfl ?_
        refine dq_nil ?_
        (repeat (first | refine uw ?_ | refine uo rfl ?_))
        have e1 := oi h1
        subst e1
        exact ghost_le (le_mk ⟨er rfl, trivial⟩ trivial)
      ·replace h1 := if_f c19 h1
       refine awp_drawQ [(1, .p (eS ([109, 111, 100, 117, 108, 101, 46, 97, 91, 34, 120, 34, 93, 46, 115, 101, 114, 118, 101, 114, 46, 119, 101, 98, 91, 48, 93] : Bytes))), (2, .ptr 2 0), (3, .p (eI r1.2)), (4, .p (eS r3.1)), (5, .p (eI r3.2)), (7, .p (eI r5.2))] rfl ⟨rfl, rfl, rfl, rfl, rfl, rfl, trivial⟩ rfl ?_
       refine dq_cons (.p (.agg (TAddress.cs r7))) [] trivial (fun sl hsl K hK => one_op rfl (ok_callP (law06_example_ok  _ e8) rfl rfl rfl args_nil trivial Tryz.call24 rfl hK)) rfl rfl rfl ?_
       refine dq_cons (.p (eS r9)) [(22, _)] ⟨.inr ⟨0, rfl, rfl⟩, trivial⟩ (fun sl hsl K hK => one_op rfl (ok_callP (address_Format_ok _ r7 _ e10) rfl rfl rfl (args_cons (hsl _ _ rfl) args_nil) ⟨sr, trivial⟩ Tryz.call11 rfl hK)) rfl rfl rfl ?_
       refine dq_cons (.p (eS ([109, 111, 100, 117, 108, 101, 46, 97, 91, 34, 120, 34, 93, 46, 115, 101, 114, 118, 101, 114, 46, 119, 101, 98, 91, 48, 93] : Bytes))) [(1, _)] ⟨.inl rfl, trivial⟩ (fun sl hsl K hK => one_op rfl (ok_move rfl rfl rfl (hsl _ _ rfl) hK)) rfl rfl rfl ?_
       refine dq_cons (.p (eB (decide (r9 = ([109, 111, 100, 117, 108, 101, 46, 97, 91, 34, 120, 34, 93, 46, 115, 101, 114, 118, 101, 114, 46, 119, 101, 98, 91, 48, 93] : Bytes))))) [(23, _), (24, _)] ⟨.inr ⟨1, rfl, rfl⟩, .inr ⟨2, rfl, rfl⟩, trivial⟩ (fun sl hsl K hK => one_op rfl (ok_cmpS rfl rfl rfl (hsl _ _ rfl) (hsl _ _ rfl) rfl hK)) rfl rfl rfl ?_
       refine dq_cons (.p (eB (decide (r9 = ([109, 111, 100, 117, 108, 101, 46, 97, 91, 34, 120, 34, 93, 46, 115, 101, 114, 118, 101, 114, 46, 119, 101, 98, 91, 48, 93] : Bytes))))) [(25, _)] ⟨.inr ⟨3, rfl, rfl⟩, trivial⟩ (fun sl hsl K hK => one_op rfl (ok_move rfl rfl rfl (hsl _ _ rfl) hK)) rfl rfl rfl ?_
       refine dq_cons (.p (eI r1.2)) [(3, _), (26, _)] ⟨.inl rfl, .inr ⟨4, rfl, rfl⟩, trivial⟩ (fun sl hsl K hK => one_yes (ok_move rfl rfl rfl (hsl _ _ rfl) hK) rfl rfl (hsl _ _ rfl) (dt c11)) rfl rfl rfl ?_
       refine dq_cons (.p (eB (decide (r1.2 = 0)))) [(26, _), (27, _)] ⟨.inr ⟨4, rfl, rfl⟩, .inr ⟨5, rfl, rfl⟩, trivial⟩ (fun sl hsl K hK => one_yes (ok_cmp rfl rfl rfl (hsl _ _ rfl) rfl rfl hK) rfl rfl (hsl _ _ rfl) (dt c11)) rfl rfl rfl ?_
       refine dq_cons (.p (eB (decide (r1.2 = 0)))) [(26, _), (28, _)] ⟨.inr ⟨4, rfl, rfl⟩, .inr ⟨6, rfl, rfl⟩, trivial⟩ (fun sl hsl K hK => one_op rfl (ok_pick_true rfl rfl rfl (hsl _ _ rfl) (dt c11) (hsl _ _ rfl) hK)) rfl rfl rfl ?_
       refine dq_cons (.p (eB (decide (r1.2 = 0)))) [(29, _)] ⟨.inr ⟨7, rfl, rfl⟩, trivial⟩ (fun sl hsl K hK => one_op rfl (ok_move rfl rfl rfl (hsl _ _ rfl) hK)) rfl rfl rfl ?_
       refine dq_cons (.p (.agg (TAddress.cs r1.1))) [(2, _), (30, _)] ⟨.inl rfl, .inr ⟨8, rfl, rfl⟩, trivial⟩ (fun sl hsl K hK => one_yes (ok_loadPA rfl rfl rfl rfl rfl (hsl _ _ rfl) rfl rfl rfl hK) rfl rfl (hsl _ _ rfl) (dt c12)) rfl rfl rfl ?_
       refine dq_cons (.p (.agg (TAddress.cs r13))) [(30, _)] ⟨.inr ⟨8, rfl, rfl⟩, trivial⟩ (fun sl hsl K hK => one_yes (ok_callP (law06_example_ok  _ e14) rfl rfl rfl args_nil trivial Tryz.call24 rfl hK) rfl rfl (hsl _ _ rfl) (dt c12)) rfl rfl rfl ?_
       refine dq_cons (.p (eB r15)) [(30, _), (31, _), (32, _)] ⟨.inr ⟨8, rfl, rfl⟩, .inr ⟨9, rfl, rfl⟩, .inr ⟨10, rfl, rfl⟩, trivial⟩ (fun sl hsl K hK => one_yes (ok_callP (law06_Same_ok _ r1.1 r13 _ e16) rfl rfl rfl (args_cons (hsl _ _ rfl) (args_cons (hsl _ _ rfl) args_nil)) ⟨sr, sr, trivial⟩ Tryz.call19 rfl hK) rfl rfl (hsl _ _ rfl) (dt c12)) rfl rfl rfl ?_
       refine dq_cons (.p (eB r15)) [(30, _), (33, _)] ⟨.inr ⟨8, rfl, rfl⟩, .inr ⟨11, rfl, rfl⟩, trivial⟩ (fun sl hsl K hK => one_op rfl (ok_pick_true rfl rfl rfl (hsl _ _ rfl) (dt c12) (hsl _ _ rfl) hK)) rfl rfl rfl ?_
       refine dq_cons (.p (eB r15)) [(34, _)] ⟨.inr ⟨12, rfl, rfl⟩, trivial⟩ (fun sl hsl K hK => one_op rfl (ok_move rfl rfl rfl (hsl _ _ rfl) hK)) rfl rfl rfl ?_
       refine dq_cons (.p (eS r3.1)) [(4, _), (35, _)] ⟨.inl rfl, .inr ⟨13, rfl, rfl⟩, trivial⟩ (fun sl hsl K hK => one_yes (ok_move rfl rfl rfl (hsl _ _ rfl) hK) rfl rfl (hsl _ _ rfl) (c17)) rfl rfl rfl ?_
       refine dq_cons (.p (eB (decide (r3.1 = ([109, 111, 100, 117, 108, 101, 46, 97, 46, 115, 101, 114, 118, 101, 114, 46, 119, 101, 98] : Bytes))))) [(35, _), (36, _)] ⟨.inr ⟨13, rfl, rfl⟩, .inr ⟨14, rfl, rfl⟩, trivial⟩ (fun sl hsl K hK => one_yes (ok_cmpS rfl rfl rfl (hsl _ _ rfl) rfl rfl hK) rfl rfl (hsl _ _ rfl) (c17)) rfl rfl rfl ?_
       refine dq_cons (.p (eB (decide (r3.1 = ([109, 111, 100, 117, 108, 101, 46, 97, 46, 115, 101, 114, 118, 101, 114, 46, 119, 101, 98] : Bytes))))) [(35, _), (37, _)] ⟨.inr ⟨13, rfl, rfl⟩, .inr ⟨15, rfl, rfl⟩, trivial⟩ (fun sl hsl K hK => one_op rfl (ok_pick_true rfl rfl rfl (hsl _ _ rfl) (c17) (hsl _ _ rfl) hK)) rfl rfl rfl ?_
       refine dq_cons (.p (eB (decide (r3.1 = ([109, 111, 100, 117, 108, 101, 46, 97, 46, 115, 101, 114, 118, 101, 114, 46, 119, 101, 98] : Bytes))))) [(38, _)] ⟨.inr ⟨16, rfl, rfl⟩, trivial⟩ (fun sl hsl K hK => one_op rfl (ok_move rfl rfl rfl (hsl _ _ rfl) hK)) rfl rfl rfl ?_
       refine dq_cons (.p (eI r3.2)) [(5, _), (39, _)] ⟨.inl rfl, .inr ⟨17, rfl, rfl⟩, trivial⟩ (fun sl hsl K hK => one_yes (ok_move rfl rfl rfl (hsl _ _ rfl) hK) rfl rfl (hsl _ _ rfl) (dt c18)) rfl rfl rfl ?_
       refine dq_cons (.p (eB (decide (r3.2 = 0)))) [(39, _), (40, _)] ⟨.inr ⟨17, rfl, rfl⟩, .inr ⟨18, rfl, rfl⟩, trivial⟩ (fun sl hsl K hK => one_yes (ok_cmp rfl rfl rfl (hsl _ _ rfl) rfl rfl hK) rfl rfl (hsl _ _ rfl) (dt c18)) rfl rfl rfl ?_
       refine dq_cons (.p (eB (decide (r3.2 = 0)))) [(39, _), (41, _)] ⟨.inr ⟨17, rfl, rfl⟩, .inr ⟨19, rfl, rfl⟩, trivial⟩ (fun sl hsl K hK => one_op rfl (ok_pick_true rfl rfl rfl (hsl _ _ rfl) (dt c18) (hsl _ _ rfl) hK)) rfl rfl rfl ?_
       refine dq_cons (.p (eB (decide (r3.2 = 0)))) [(42, _)] ⟨.inr ⟨20, rfl, rfl⟩, trivial⟩ (fun sl hsl K hK => one_op rfl (ok_move rfl rfl rfl (hsl _ _ rfl) hK)) rfl rfl rfl ?_
       refine dq_cons (.p (.val Go.undef)) [(7, _), (43, _)] ⟨.inl rfl, .inr ⟨21, rfl, rfl⟩, trivial⟩ (fun sl hsl K hK => one_no rfl rfl (hsl _ _ rfl) (df c19) rfl rfl hK) rfl rfl rfl ?_
       refine dq_cons (.p (.val Go.undef)) [(43, _), (44, _)] ⟨.inr ⟨21, rfl, rfl⟩, .inr ⟨22, rfl, rfl⟩, trivial⟩ (fun sl hsl K hK => one_no rfl rfl (hsl _ _ rfl) (df c19) rfl rfl hK) rfl rfl rfl ?_
       refine dq_cons (.p (eB false)) [(43, _), (45, _)] ⟨.inr ⟨21, rfl, rfl⟩, .inr ⟨23, rfl, rfl⟩, trivial⟩ (fun sl hsl K hK => one_op rfl (ok_pick_false rfl rfl rfl (hsl _ _ rfl) (df c19) rfl hK)) rfl rfl rfl ?_
       refine dq_cons (.p (eB false)) [(46, _)] ⟨.inr ⟨24, rfl, rfl⟩, trivial⟩ (fun sl hsl K hK => one_op rfl (ok_move rfl rfl rfl (hsl _ _ rfl) hK)) rfl rfl rfl ?_
       refine dq_cons (.p (.val Go.undef)) [(1, _), (47, _)] ⟨.inl rfl, .inr ⟨25, rfl, rfl⟩, trivial⟩ (fun sl hsl K hK => one_no rfl rfl (hsl _ _ rfl) (rfl) rfl rfl hK) rfl rfl rfl ?_
       refine dq_cons (.p (.val Go.undef)) [(47, _), (48, _)] ⟨.inr ⟨25, rfl, rfl⟩, .inr ⟨26, rfl, rfl⟩, trivial⟩ (fun sl hsl K hK => one_no rfl rfl (hsl _ _ rfl) (rfl) rfl rfl hK) rfl rfl rfl ?_
       refine dq_cons (.p (eB false)) [(47, _), (49, _)] ⟨.inr ⟨25, rfl, rfl⟩, .inr ⟨27, rfl, rfl⟩, trivial⟩ (fun sl hsl K hK => one_op rfl (ok_pick_false rfl rfl rfl (hsl _ _ rfl) (rfl) rfl hK)) rfl rfl rfl ?_
       refine dq_cons (.p (eB false)) [(50, _)] ⟨.inr ⟨28, rfl, rfl⟩, trivial⟩ (fun sl hsl K hK => one_op rfl (ok_move rfl rfl rfl (hsl _ _ rfl) hK)) rfl rfl rfl ?_
       refine dq_cons (.p (.val Go.undef)) [(1, _), (51, _)] ⟨.inl rfl, .inr ⟨29, rfl, rfl⟩, trivial⟩ (fun sl hsl K hK => one_no rfl rfl (hsl _ _ rfl) (rfl) rfl rfl hK) rfl rfl rfl ?_
       refine dq_cons (.p (.val Go.undef)) [(51, _), (52, _)] ⟨.inr ⟨29, rfl, rfl⟩, .inr ⟨30, rfl, rfl⟩, trivial⟩ (fun sl hsl K hK => one_no rfl rfl (hsl _ _ rfl) (rfl) rfl rfl hK) rfl rfl rfl ?_
       refine dq_cons (.p (.val Go.undef)) [(51, _), (53, _)] ⟨.inr ⟨29, rfl, rfl⟩, .inr ⟨31, rfl, rfl⟩, trivial⟩ (fun sl hsl K hK => one_no rfl rfl (hsl _ _ rfl) (rfl) rfl rfl hK) rfl rfl rfl ?_
       refine dq_cons (.p (eB false)) [(51, _), (54, _)] ⟨.inr ⟨29, rfl, rfl⟩, .inr ⟨32, rfl, rfl⟩, trivial⟩ (fun sl hsl K hK => one_op rfl (ok_pick_false rfl rfl rfl (hsl _ _ rfl) (rfl) rfl hK)) rfl rfl rfl ?_
       refine dq_cons (.p (eB false)) [(55, _)] ⟨.inr ⟨33, rfl, rfl⟩, trivial⟩ (fun sl hsl K hK => one_op rfl (ok_move rfl rfl rfl (hsl _ _ rfl) hK)) rfl rfl rfl ?_
       refine dq_cons (.p (.val Go.undef)) [(56, _)] ⟨.inr ⟨34, rfl, rfl⟩, trivial⟩ (fun sl hsl K hK => one_no rfl rfl (hsl _ _ rfl) (rfl) rfl rfl hK) rfl rfl rfl ?_
       refine dq_cons (.p (eB false)) [(56, _), (57, _)] ⟨.inr ⟨34, rfl, rfl⟩, .inr ⟨35, rfl, rfl⟩, trivial⟩ (fun sl hsl K hK => one_op rfl (ok_pick_false rfl rfl rfl (hsl _ _ rfl) (rfl) rfl hK)) rfl rfl rfl ?_
       refine dq_cons (.p (eB false)) [(58, _)] ⟨.inr ⟨36, rfl, rfl⟩, trivial⟩ (fun sl hsl K hK => one_op rfl (ok_move rfl rfl rfl (hsl _ _ rfl) hK)) rfl rfl rfl ?_
       refine dq_cons (.p (.val Go.undef)) [(59, _)] ⟨.inr ⟨37, rfl, rfl⟩, trivial⟩ (fun sl hsl K hK => one_no rfl rfl (hsl _ _ rfl) (rfl) rfl rfl hK) rfl rfl rfl ?_
       refine dq_cons (.p (.val Go.undef)) [(59, _), (60, _)] ⟨.inr ⟨37, rfl, rfl⟩, .inr ⟨38, rfl, rfl⟩, trivial⟩ (fun sl hsl K hK => one_no rfl rfl (hsl _ _ rfl) (rfl) rfl rfl hK) rfl rfl rfl ?_
       refine dq_cons (.p (eB false)) [(59, _), (61, _)] ⟨.inr ⟨37, rfl, rfl⟩, .inr ⟨39, rfl, rfl⟩, trivial⟩ (fun sl hsl K hK => one_op rfl (ok_pick_false rfl rfl rfl (hsl _ _ rfl) (rfl) rfl hK)) rfl rfl rfl ?_
       refine dq_cons (.p (eB false)) [(62, _)] ⟨.inr ⟨40, rfl, rfl⟩, trivial⟩ (fun sl hsl K hK => one_op rfl (ok_move rfl rfl rfl (hsl _ _ rfl) hK)) rfl rfl rfl ?_
       refine dq_cons (.p (.val Go.undef)) [(63, _)] ⟨.inr ⟨41, rfl, rfl⟩, trivial⟩ (fun sl hsl K hK => one_no rfl rfl (hsl _ _ rfl) (rfl) rfl rfl hK) rfl rfl rfl ?_
       refine dq_cons (.p (.val Go.undef)) [(63, _), (64, _)] ⟨.inr ⟨41, rfl, rfl⟩, .inr ⟨42, rfl, rfl⟩, trivial⟩ (fun sl hsl K hK => one_no rfl rfl (hsl _ _ rfl) (rfl) rfl rfl hK) rfl rfl rfl ?_
       refine dq_cons (.p (.val Go.undef)) [(63, _), (65, _)] ⟨.inr ⟨41, rfl, rfl⟩, .inr ⟨43, rfl, rfl⟩, trivial⟩ (fun sl hsl K hK => one_no rfl rfl (hsl _ _ rfl) (rfl) rfl rfl hK) rfl rfl rfl ?_
       refine dq_cons (.p (eB false)) [(63, _), (66, _)] ⟨.inr ⟨41, rfl, rfl⟩, .inr ⟨44, rfl, rfl⟩, trivial⟩ (fun sl hsl K hK => one_op rfl (ok_pick_false rfl rfl rfl (hsl _ _ rfl) (rfl) rfl hK)) rfl rfl rfl ?_
       refine dq_cons (.p (eB false)) [(67, _)] ⟨.inr ⟨45, rfl, rfl⟩, trivial⟩ (fun sl hsl K hK => one_op rfl (ok_assign rfl rfl rfl (hsl _ _ rfl) hK)) rfl rfl rfl ?_
       refine dq_nil ?_
       (repeat (first | refine uw ?_ | refine uo rfl ?_))
       have e1 := oi h1
       subst e1
       exact ghost_le (le_mk ⟨er rfl, trivial⟩ trivial)
     ·replace h1 := if_f c18 h1
      refine awp_drawQ [(1, .p (eS ([109, 111, 100, 117, 108, 101, 46, 97, 91, 34, 120, 34, 93, 46, 115, 101, 114, 118, 101, 114, 46, 119, 101, 98, 91, 48, 93] : Bytes))), (2, .ptr 2 0), (3, .p (eI r1.2)), (4, .p (eS r3.1)), (5, .p (eI r3.2)), (7, .p (eI r5.2))] rfl ⟨rfl, rfl, rfl, rfl, rfl, rfl, trivial⟩ rfl ?_
      refine dq_cons (.p (.agg (TAddress.cs r7))) [] trivial (fun sl hsl K hK => one_op rfl (ok_callP (law06_example_ok  _ e8) rfl rfl rfl args_nil trivial Tryz.call24 rfl hK)) rfl rfl rfl ?_
      refine dq_cons (.p (eS r9)) [(22, _)] ⟨.inr ⟨0, rfl, rfl⟩, trivial⟩ (fun sl hsl K hK => one_op rfl (ok_callP (address_Format_ok _ r7 _ e10) rfl rfl rfl (args_cons (hsl _ _ rfl) args_nil) ⟨sr, trivial⟩ Tryz.call11 rfl hK)) rfl rfl rfl ?_
      refine dq_cons (.p (eS ([109, 111, 100, 117, 108, 101, 46, 97, 91, 34, 120, 34, 93, 46, 115, 101, 114, 118, 101, 114, 46, 119, 101, 98, 91, 48, 93] : Bytes))) [(1, _)] ⟨.inl rfl, trivial⟩ (fun sl hsl K hK => one_op rfl (ok_move rfl rfl rfl (hsl _ _ rfl) hK)) rfl rfl rfl ?_
      refine dq_cons (.p (eB (decide (r9 = ([109, 111, 100, 117, 108, 101, 46, 97, 91, 34, 120, 34, 93, 46, 115, 101, 114, 118, 101, 114, 46, 119, 101, 98, 91, 48, 93] : Bytes))))) [(23, _), (24, _)] ⟨.inr ⟨1, rfl, rfl⟩, .inr ⟨2, rfl, rfl⟩, trivial⟩ (fun sl hsl K hK => one_op rfl (ok_cmpS rfl rfl rfl (hsl _ _ rfl) (hsl _ _ rfl) rfl hK)) rfl rfl rfl ?_
      refine dq_cons (.p (eB (decide (r9 = ([109, 111, 100, 117, 108, 101, 46, 97, 91, 34, 120, 34, 93, 46, 115, 101, 114, 118, 101, 114, 46, 119, 101, 98, 91, 48, 93] : Bytes))))) [(25, _)] ⟨.inr ⟨3, rfl, rfl⟩, trivial⟩ (fun sl hsl K hK => one_op rfl (ok_move rfl rfl rfl (hsl _ _ rfl) hK)) rfl rfl rfl ?_
      refine dq_cons (.p (eI r1.2)) [(3, _), (26, _)] ⟨.inl rfl, .inr ⟨4, rfl, rfl⟩, trivial⟩ (fun sl hsl K hK => one_yes (ok_move rfl rfl rfl (hsl _ _ rfl) hK) rfl rfl (hsl _ _ rfl) (dt c11)) rfl rfl rfl ?_
      refine dq_cons (.p (eB (decide (r1.2 = 0)))) [(26, _), (27, _)] ⟨.inr ⟨4, rfl, rfl⟩, .inr ⟨5, rfl, rfl⟩, trivial⟩ (fun sl hsl K hK => one_yes (ok_cmp rfl rfl rfl (hsl _ _ rfl) rfl rfl hK) rfl rfl (hsl _ _ rfl) (dt c11)) rfl rfl rfl ?_
      refine dq_cons (.p (eB (decide (r1.2 = 0)))) [(26, _), (28, _)] ⟨.inr ⟨4, rfl, rfl⟩, .inr ⟨6, rfl, rfl⟩, trivial⟩ (fun sl hsl K hK => one_op rfl (ok_pick_true rfl rfl rfl (hsl _ _ rfl) (dt c11) (hsl _ _ rfl) hK)) rfl rfl rfl ?_
      refine dq_cons (.p (eB (decide (r1.2 = 0)))) [(29, _)] ⟨.inr ⟨7, rfl, rfl⟩, trivial⟩ (fun sl hsl K hK => one_op rfl (ok_move rfl rfl rfl (hsl _ _ rfl) hK)) rfl rfl rfl ?_
      refine dq_cons (.p (.agg (TAddress.cs r1.1))) [(2, _), (30, _)] ⟨.inl rfl, .inr ⟨8, rfl, rfl⟩, trivial⟩ (fun sl hsl K hK => one_yes (ok_loadPA rfl rfl rfl rfl rfl (hsl _ _ rfl) rfl rfl rfl hK) rfl rfl (hsl _ _ rfl) (dt c12)) rfl rfl rfl ?_
      refine dq_cons (.p (.agg (TAddress.cs r13))) [(30, _)] ⟨.inr ⟨8, rfl, rfl⟩, trivial⟩ (fun sl hsl K hK => one_yes (ok_callP (law06_example_ok  _ e14) rfl rfl rfl args_nil trivial Tryz.call24 rfl hK) rfl rfl (hsl _ _ rfl) (dt c12)) rfl rfl rfl ?_
      refine dq_cons (.p (eB r15)) [(30, _), (31, _), (32, _)] ⟨.inr ⟨8, rfl, rfl⟩, .inr ⟨9, rfl, rfl⟩, .inr ⟨10, rfl, rfl⟩, trivial⟩ (fun sl hsl K hK => one_yes (ok_callP (law06_Same_ok _ r1.1 r13 _ e16) rfl rfl rfl (args_cons (hsl _ _ rfl) (args_cons (hsl _ _ rfl) args_nil)) ⟨sr, sr, trivial⟩ Tryz.call19 rfl hK) rfl rfl (hsl _ _ rfl) (dt c12)) rfl rfl rfl ?_
      refine dq_cons (.p (eB r15)) [(30, _), (33, _)] ⟨.inr ⟨8, rfl, rfl⟩, .inr ⟨11, rfl, rfl⟩, trivial⟩ (fun sl hsl K hK => one_op rfl (ok_pick_true rfl rfl rfl (hsl _ _ rfl) (dt c12) (hsl _ _ rfl) hK)) rfl rfl rfl ?_
      refine dq_cons (.p (eB r15)) [(34, _)] ⟨.inr ⟨12, rfl, rfl⟩, trivial⟩ (fun sl hsl K hK => one_op rfl (ok_move rfl rfl rfl (hsl _ _ rfl) hK)) rfl rfl rfl ?_
      refine dq_cons (.p (eS r3.1)) [(4, _), (35, _)] ⟨.inl rfl, .inr ⟨13, rfl, rfl⟩, trivial⟩ (fun sl hsl K hK => one_yes (ok_move rfl rfl rfl (hsl _ _ rfl) hK) rfl rfl (hsl _ _ rfl) (c17)) rfl rfl rfl ?_
      refine dq_cons (.p (eB (decide (r3.1 = ([109, 111, 100, 117, 108, 101, 46, 97, 46, 115, 101, 114, 118, 101, 114, 46, 119, 101, 98] : Bytes))))) [(35, _), (36, _)] ⟨.inr ⟨13, rfl, rfl⟩, .inr ⟨14, rfl, rfl⟩, trivial⟩ (fun sl hsl K hK => one_yes (ok_cmpS rfl rfl rfl (hsl _ _ rfl) rfl rfl hK) rfl rfl (hsl _ _ rfl) (c17)) rfl rfl rfl ?_
      refine dq_cons (.p (eB (decide (r3.1 = ([109, 111, 100, 117, 108, 101, 46, 97, 46, 115, 101, 114, 118, 101, 114, 46, 119, 101, 98] : Bytes))))) [(35, _), (37, _)] ⟨.inr ⟨13, rfl, rfl⟩, .inr ⟨15, rfl, rfl⟩, trivial⟩ (fun sl hsl K hK => one_op rfl (ok_pick_true rfl rfl rfl (hsl _ _ rfl) (c17) (hsl _ _ rfl) hK)) rfl rfl rfl ?_
      refine dq_cons (.p (eB (decide (r3.1 = ([109, 111, 100, 117, 108, 101, 46, 97, 46, 115, 101, 114, 118, 101, 114, 46, 119, 101, 98] : Bytes))))) [(38, _)] ⟨.inr ⟨16, rfl, rfl⟩, trivial⟩ (fun sl hsl K hK => one_op rfl (ok_move rfl rfl rfl (hsl _ _ rfl) hK)) rfl rfl rfl ?_
      refine dq_cons (.p (.val Go.undef)) [(5, _), (39, _)] ⟨.inl rfl, .inr ⟨17, rfl, rfl⟩, trivial⟩ (fun sl hsl K hK => one_no rfl rfl (hsl _ _ rfl) (df c18) rfl rfl hK) rfl rfl rfl ?_
      refine dq_cons (.p (.val Go.undef)) [(39, _), (40, _)] ⟨.inr ⟨17, rfl, rfl⟩, .inr ⟨18, rfl, rfl⟩, trivial⟩ (fun sl hsl K hK => one_no rfl rfl (hsl _ _ rfl) (df c18) rfl rfl hK) rfl rfl rfl ?_
      refine dq_cons (.p (eB false)) [(39, _), (41, _)] ⟨.inr ⟨17, rfl, rfl⟩, .inr ⟨19, rfl, rfl⟩, trivial⟩ (fun sl hsl K hK => one_op rfl (ok_pick_false rfl rfl rfl (hsl _ _ rfl) (df c18) rfl hK)) rfl rfl rfl ?_
      refine dq_cons (.p (eB false)) [(42, _)] ⟨.inr ⟨20, rfl, rfl⟩, trivial⟩ (fun sl hsl K hK => one_op rfl (ok_move rfl rfl rfl (hsl _ _ rfl) hK)) rfl rfl rfl ?_
      refine dq_cons (.p (.val Go.undef)) [(7, _), (43, _)] ⟨.inl rfl, .inr ⟨21, rfl, rfl⟩, trivial⟩ (fun sl hsl K hK => one_no rfl rfl (hsl _ _ rfl) (rfl) rfl rfl hK) rfl rfl rfl ?_
      refine dq_cons (.p (.val Go.undef)) [(43, _), (44, _)] ⟨.inr ⟨21, rfl, rfl⟩, .inr ⟨22, rfl, rfl⟩, trivial⟩ (fun sl hsl K hK => one_no rfl rfl (hsl _ _ rfl) (rfl) rfl rfl hK) rfl rfl rfl ?_
      refine dq_cons (.p (eB false)) [(43, _), (45, _)] ⟨.inr ⟨21, rfl, rfl⟩, .inr ⟨23, rfl, rfl⟩, trivial⟩ (fun sl hsl K hK => one_op rfl (ok_pick_false rfl rfl rfl (hsl _ _ rfl) (rfl) rfl hK)) rfl rfl rfl ?_
      refine dq_cons (.p (eB false)) [(46, _)] ⟨.inr ⟨24, rfl, rfl⟩, trivial⟩ (fun sl hsl K hK => one_op rfl (ok_move rfl rfl rfl (hsl _ _ rfl) hK)) rfl rfl rfl ?_
      refine dq_cons (.p (.val Go.undef)) [(1, _), (47, _)] ⟨.inl rfl, .inr ⟨25, rfl, rfl⟩, trivial⟩ (fun sl hsl K hK => one_no rfl rfl (hsl _ _ rfl) (rfl) rfl rfl hK) rfl rfl rfl ?_
      refine dq_cons (.p (.val Go.undef)) [(47, _), (48, _)] ⟨.inr ⟨25, rfl, rfl⟩, .inr ⟨26, rfl, rfl⟩, trivial⟩ (fun sl hsl K hK => one_no rfl rfl (hsl _ _ rfl) (rfl) rfl rfl hK) rfl rfl rfl ?_
      refine dq_cons (.p (eB false)) [(47, _), (49, _)] ⟨.inr ⟨25, rfl, rfl⟩, .inr ⟨27, rfl, rfl⟩, trivial⟩ (fun sl hsl K hK => one_op rfl (ok_pick_false rfl rfl rfl (hsl _ _ rfl) (rfl) rfl hK)) rfl rfl rfl ?_
      refine dq_cons (.p (eB false)) [(50, _)] ⟨.inr ⟨28, rfl, rfl⟩, trivial⟩ (fun sl hsl K hK => one_op rfl (ok_move rfl rfl rfl (hsl _ _ rfl) hK)) rfl rfl rfl ?_
      refine dq_cons (.p (.val Go.undef)) [(1, _), (51, _)] ⟨.inl rfl, .inr ⟨29, rfl, rfl⟩, trivial⟩ (fun sl hsl K hK => one_no rfl rfl (hsl _ _ rfl) (rfl) rfl rfl hK) rfl rfl rfl ?_
      refine dq_cons (.p (.val Go.undef)) [(51, _), (52, _)] ⟨.inr ⟨29, rfl, rfl⟩, .inr ⟨30, rfl, rfl⟩, trivial⟩ (fun sl hsl K hK => one_no rfl rfl (hsl _ _ rfl) (rfl) rfl rfl hK) rfl rfl rfl ?_
      refine dq_cons (.p (.val Go.undef)) [(51, _), (53, _)] ⟨.inr ⟨29, rfl, rfl⟩, .inr ⟨31, rfl, rfl⟩, trivial⟩ (fun sl hsl K hK => one_no rfl rfl (hsl _ _ rfl) (rfl) rfl rfl hK) rfl rfl rfl ?_
      refine dq_cons (.p (eB false)) [(51, _), (54, _)] ⟨.inr ⟨29, rfl, rfl⟩, .inr ⟨32, rfl, rfl⟩, trivial⟩ (fun sl hsl K hK => one_op rfl (ok_pick_false rfl rfl rfl (hsl _ _ rfl) (rfl) rfl hK)) rfl rfl rfl ?_
      refine dq_cons (.p (eB false)) [(55, _)] ⟨.inr ⟨33, rfl, rfl⟩, trivial⟩ (fun sl hsl K hK => one_op rfl (ok_move rfl rfl rfl (hsl _ _ rfl) hK)) rfl rfl rfl ?_
      refine dq_cons (.p (.val Go.undef)) [(56, _)] ⟨.inr ⟨34, rfl, rfl⟩, trivial⟩ (fun sl hsl K hK => one_no rfl rfl (hsl _ _ rfl) (rfl) rfl rfl hK) rfl rfl rfl ?_
      refine dq_cons (.p (eB false)) [(56, _), (57, _)] ⟨.inr ⟨34, rfl, rfl⟩, .inr ⟨35, rfl, rfl⟩, trivial⟩ (fun sl hsl K hK => one_op rfl (ok_pick_false rfl rfl rfl (hsl _ _ rfl) (rfl) rfl hK)) rfl rfl rfl ?_
      refine dq_cons (.p (eB false)) [(58, _)] ⟨.inr ⟨36, rfl, rfl⟩, trivial⟩ (fun sl hsl K hK => one_op rfl (ok_move rfl rfl rfl (hsl _ _ rfl) hK)) rfl rfl rfl ?_
      refine dq_cons (.p (.val Go.undef)) [(59, _)] ⟨.inr ⟨37, rfl, rfl⟩, trivial⟩ (fun sl hsl K hK => one_no rfl rfl (hsl _ _ rfl) (rfl) rfl rfl hK) rfl rfl rfl ?_
      refine dq_cons (.p (.val Go.undef)) [(59, _), (60, _)] ⟨.inr ⟨37, rfl, rfl⟩, .inr ⟨38, rfl, rfl⟩, trivial⟩ (fun sl hsl K hK => one_no rfl rfl (hsl _ _ rfl) (rfl) rfl rfl hK) rfl rfl rfl ?_
      refine dq_cons (.p (eB false)) [(59, _), (61, _)] ⟨.inr ⟨37, rfl, rfl⟩, .inr ⟨39, rfl, rfl⟩, trivial⟩ (fun sl hsl K hK => one_op rfl (ok_pick_false rfl rfl rfl (hsl _ _ rfl) (rfl) rfl hK)) rfl rfl rfl ?_
      refine dq_cons (.p (eB false)) [(62, _)] ⟨.inr ⟨40, rfl, rfl⟩, trivial⟩ (fun sl hsl K hK => one_op rfl (ok_move rfl rfl rfl (hsl _ _ rfl) hK)) rfl rfl rfl ?_
      refine dq_cons (.p (.val Go.undef)) [(63, _)] ⟨.inr ⟨41, rfl, rfl⟩, trivial⟩ (fun sl hsl K hK => one_no rfl rfl (hsl _ _ rfl) (rfl) rfl rfl hK) rfl rfl rfl ?_
      refine dq_cons (.p (.val Go.undef)) [(63, _), (64, _)] ⟨.inr ⟨41, rfl, rfl⟩, .inr ⟨42, rfl, rfl⟩, trivial⟩ (fun sl hsl K hK => one_no rfl rfl (hsl _ _ rfl) (rfl) rfl rfl hK) rfl rfl rfl ?_
      refine dq_cons (.p (.val Go.undef)) [(63, _), (65, _)] ⟨.inr ⟨41, rfl, rfl⟩, .inr ⟨43, rfl, rfl⟩, trivial⟩ (fun sl hsl K hK => one_no rfl rfl (hsl _ _ rfl) (rfl) rfl rfl hK) rfl rfl rfl ?_
      refine dq_cons (.p (eB false)) [(63, _), (66, _)] ⟨.inr ⟨41, rfl, rfl⟩, .inr ⟨44, rfl, rfl⟩, trivial⟩ (fun sl hsl K hK => one_op rfl (ok_pick_false rfl rfl rfl (hsl _ _ rfl) (rfl) rfl hK)) rfl rfl rfl ?_
      refine dq_cons (.p (eB false)) [(67, _)] ⟨.inr ⟨45, rfl, rfl⟩, trivial⟩ (fun sl hsl K hK => one_op rfl (ok_assign rfl rfl rfl (hsl _ _ rfl) hK)) rfl rfl rfl ?_
      refine dq_nil ?_
      (repeat (first | refine uw ?_ | refine uo rfl ?_))
      have e1 := oi h1
      subst e1
      exact ghost_le (le_mk ⟨er rfl, trivial⟩ trivial)
    ·replace h1 := if_bf c17 h1
     refine awp_drawQ [(1, .p (eS ([109, 111, 100, 117, 108, 101, 46, 97, 91, 34, 120, 34, 93, 46, 115, 101, 114, 118, 101, 114, 46, 119, 101, 98, 91, 48, 93] : Bytes))), (2, .ptr 2 0), (3, .p (eI r1.2)), (4, .p (eS r3.1)), (5, .p (eI r3.2)), (7, .p (eI r5.2))] rfl ⟨rfl, rfl, rfl, rfl, rfl, rfl, trivial⟩ rfl ?_
     refine dq_cons (.p (.agg (TAddress.cs r7))) [] trivial (fun sl hsl K hK => one_op rfl (ok_callP (law06_example_ok  _ e8) rfl rfl rfl args_nil trivial Tryz.call24 rfl hK)) rfl rfl rfl ?_
     refine dq_cons (.p (eS r9)) [(22, _)] ⟨.inr ⟨0, rfl, rfl⟩, trivial⟩ (fun sl hsl K hK => one_op rfl (ok_callP (address_Format_ok _ r7 _ e10) rfl rfl rfl (args_cons (hsl _ _ rfl) args_nil) ⟨sr, trivial⟩ Tryz.call11 rfl hK)) rfl rfl rfl ?_
     refine dq_cons (.p (eS ([109, 111, 100, 117, 108, 101, 46, 97, 91, 34, 120, 34, 93, 46, 115, 101, 114, 118, 101, 114, 46, 119, 101, 98, 91, 48, 93] : Bytes))) [(1, _)] ⟨.inl rfl, trivial⟩ (fun sl hsl K hK => one_op rfl (ok_move rfl rfl rfl (hsl _ _ rfl) hK)) rfl rfl rfl ?_
     refine dq_cons (.p (eB (decide (r9 = ([109, 111, 100, 117, 108, 101, 46, 97, 91, 34, 120, 34, 93, 46, 115, 101, 114, 118, 101, 114, 46, 119, 101, 98, 91, 48, 93] : Bytes))))) [(23, _), (24, _)] ⟨.inr ⟨1, rfl, rfl⟩, .inr ⟨2, rfl, rfl⟩, trivial⟩ (fun sl hsl K hK => one_op rfl (ok_cmpS rfl rfl rfl (hsl _ _ rfl) (hsl _ _ rfl) rfl hK)) rfl rfl rfl ?_
     refine dq_cons (.p (eB (decide (r9 = ([109, 111, 100, 117, 108, 101, 46, 97, 91, 34, 120, 34, 93, 46, 115, 101, 114, 118, 101, 114, 46, 119, 101, 98, 91, 48, 93] : Bytes))))) [(25, _)] ⟨.inr ⟨3, rfl, rfl⟩, trivial⟩ (fun sl hsl K hK => one_op rfl (ok_move rfl rfl rfl (hsl _ _ rfl) hK)) rfl rfl rfl ?_
     refine dq_cons (.p (eI r1.2)) [(3, _), (26, _)] ⟨.inl rfl, .inr ⟨4, rfl, rfl⟩, trivial⟩ (fun sl hsl K hK => one_yes (ok_move rfl rfl rfl (hsl _ _ rfl) hK) rfl rfl (hsl _ _ rfl) (dt c11)) rfl rfl rfl ?_
     refine dq_cons (.p (eB (decide (r1.2 = 0)))) [(26, _), (27, _)] ⟨.inr ⟨4, rfl, rfl⟩, .inr ⟨5, rfl, rfl⟩, trivial⟩ (fun sl hsl K hK => one_yes (ok_cmp rfl rfl rfl (hsl _ _ rfl) rfl rfl hK) rfl rfl (hsl _ _ rfl) (dt c11)) rfl rfl rfl ?_
     refine dq_cons (.p (eB (decide (r1.2 = 0)))) [(26, _), (28, _)] ⟨.inr ⟨4, rfl, rfl⟩, .inr ⟨6, rfl, rfl⟩, trivial⟩ (fun sl hsl K hK => one_op rfl (ok_pick_true rfl rfl rfl (hsl _ _ rfl) (dt c11) (hsl _ _ rfl) hK)) rfl rfl rfl ?_
     refine dq_cons (.p (eB (decide (r1.2 = 0)))) [(29, _)] ⟨.inr ⟨7, rfl, rfl⟩, trivial⟩ (fun sl hsl K hK => one_op rfl (ok_move rfl rfl rfl (hsl _ _ rfl) hK)) rfl rfl rfl ?_
     refine dq_cons (.p (.agg (TAddress.cs r1.1))) [(2, _), (30, _)] ⟨.inl rfl, .inr ⟨8, rfl, rfl⟩, trivial⟩ (fun sl hsl K hK => one_yes (ok_loadPA rfl rfl rfl rfl rfl (hsl _ _ rfl) rfl rfl rfl hK) rfl rfl (hsl _ _ rfl) (dt c12)) rfl rfl rfl ?_
     refine dq_cons (.p (.agg (TAddress.cs r13))) [(30, _)] ⟨.inr ⟨8, rfl, rfl⟩, trivial⟩ (fun sl hsl K hK => one_yes (ok_callP (law06_example_ok  _ e14) rfl rfl rfl args_nil trivial Tryz.call24 rfl hK) rfl rfl (hsl _ _ rfl) (dt c12)) rfl rfl rfl ?_
     refine dq_cons (.p (eB r15)) [(30, _), (31, _), (32, _)] ⟨.inr ⟨8, rfl, rfl⟩, .inr ⟨9, rfl, rfl⟩, .inr ⟨10, rfl, rfl⟩, trivial⟩ (fun sl hsl K hK => one_yes (ok_callP (law06_Same_ok _ r1.1 r13 _ e16) rfl rfl rfl (args_cons (hsl _ _ rfl) (args_cons (hsl _ _ rfl) args_nil)) ⟨sr, sr, trivial⟩ Tryz.call19 rfl hK) rfl rfl (hsl _ _ rfl) (dt c12)) rfl rfl rfl ?_
     refine dq_cons (.p (eB r15)) [(30, _), (33, _)] ⟨.inr ⟨8, rfl, rfl⟩, .inr ⟨11, rfl, rfl⟩, trivial⟩ (fun sl hsl K hK => one_op rfl (ok_pick_true rfl rfl rfl (hsl _ _ rfl) (dt c12) (hsl _ _ rfl) hK)) rfl rfl rfl ?_
     refine dq_cons (.p (eB r15)) [(34, _)] ⟨.inr ⟨12, rfl, rfl⟩, trivial⟩ (fun sl hsl K hK => one_op rfl (ok_move rfl rfl rfl (hsl _ _ rfl) hK)) rfl rfl rfl ?_
     refine dq_cons (.p (.val Go.undef)) [(4, _), (35, _)] ⟨.inl rfl, .inr ⟨13, rfl, rfl⟩, trivial⟩ (fun sl hsl K hK => one_no rfl rfl (hsl _ _ rfl) (c17) rfl rfl hK) rfl rfl rfl ?_
     refine dq_cons (.p (.val Go.undef)) [(35, _), (36, _)] ⟨.inr ⟨13, rfl, rfl⟩, .inr ⟨14, rfl, rfl⟩, trivial⟩ (fun sl hsl K hK => one_no rfl rfl (hsl _ _ rfl) (c17) rfl rfl hK) rfl rfl rfl ?_
     refine dq_cons (.p (eB false)) [(35, _), (37, _)] ⟨.inr ⟨13, rfl, rfl⟩, .inr ⟨15, rfl, rfl⟩, trivial⟩ (fun sl hsl K hK => one_op rfl (ok_pick_false rfl rfl rfl (hsl _ _ rfl) (c17) rfl hK)) rfl rfl rfl ?_
     refine dq_cons (.p (eB false)) [(38, _)] ⟨.inr ⟨16, rfl, rfl⟩, trivial⟩ (fun sl hsl K hK => one_op rfl (ok_move rfl rfl rfl (hsl _ _ rfl) hK)) rfl rfl rfl ?_
     refine dq_cons (.p (.val Go.undef)) [(5, _), (39, _)] ⟨.inl rfl, .inr ⟨17, rfl, rfl⟩, trivial⟩ (fun sl hsl K hK => one_no rfl rfl (hsl _ _ rfl) (rfl) rfl rfl hK) rfl rfl rfl ?_
     refine dq_cons (.p (.val Go.undef)) [(39, _), (40, _)] ⟨.inr ⟨17, rfl, rfl⟩, .inr ⟨18, rfl, rfl⟩, trivial⟩ (fun sl hsl K hK => one_no rfl rfl (hsl _ _ rfl) (rfl) rfl rfl hK) rfl rfl rfl ?_
     refine dq_cons (.p (eB false)) [(39, _), (41, _)] ⟨.inr ⟨17, rfl, rfl⟩, .inr ⟨19, rfl, rfl⟩, trivial⟩ (fun sl hsl K hK => one_op rfl (ok_pick_false rfl rfl rfl (hsl _ _ rfl) (rfl) rfl hK)) rfl rfl rfl ?_
     refine dq_cons (.p (eB false)) [(42, _)] ⟨.inr ⟨20, rfl, rfl⟩, trivial⟩ (fun sl hsl K hK => one_op rfl (ok_move rfl rfl rfl (hsl _ _ rfl) hK)) rfl rfl rfl ?_
     refine dq_cons (.p (.val Go.undef)) [(7, _), (43, _)] ⟨.inl rfl, .inr ⟨21, rfl, rfl⟩, trivial⟩ (fun sl hsl K hK => one_no rfl rfl (hsl _ _ rfl) (rfl) rfl rfl hK) rfl rfl rfl ?_
     refine dq_cons (.p (.val Go.undef)) [(43, _), (44, _)] ⟨.inr ⟨21, rfl, rfl⟩, .inr ⟨22, rfl, rfl⟩, trivial⟩ (fun sl hsl K hK => one_no rfl rfl (hsl _ _ rfl) (rfl) rfl rfl hK) rfl rfl rfl ?_
     refine dq_cons (.p (eB false)) [(43, _), (45, _)] ⟨.inr ⟨21, rfl, rfl⟩, .inr ⟨23, rfl, rfl⟩, trivial⟩ (fun sl hsl K hK => one_op rfl (ok_pick_false rfl rfl rfl (hsl _ _ rfl) (rfl) rfl hK)) rfl rfl rfl ?_
     refine dq_cons (.p (eB false)) [(46, _)] ⟨.inr ⟨24, rfl, rfl⟩, trivial⟩ (fun sl hsl K hK => one_op rfl (ok_move rfl rfl rfl (hsl _ _ rfl) hK)) rfl rfl rfl ?_
     refine dq_cons (.p (.val Go.undef)) [(1, _), (47, _)] ⟨.inl rfl, .inr ⟨25, rfl, rfl⟩, trivial⟩ (fun sl hsl K hK => one_no rfl rfl (hsl _ _ rfl) (rfl) rfl rfl hK) rfl rfl rfl ?_
     refine dq_cons (.p (.val Go.undef)) [(47, _), (48, _)] ⟨.inr ⟨25, rfl, rfl⟩, .inr ⟨26, rfl, rfl⟩, trivial⟩ (fun sl hsl K hK => one_no rfl rfl (hsl _ _ rfl) (rfl) rfl rfl hK) rfl rfl rfl ?_
     refine dq_cons (.p (eB false)) [(47, _), (49, _)] ⟨.inr ⟨25, rfl, rfl⟩, .inr ⟨27, rfl, rfl⟩, trivial⟩ (fun sl hsl K hK => one_op rfl (ok_pick_false rfl rfl rfl (hsl _ _ rfl) (rfl) rfl hK)) rfl rfl rfl ?_
     refine dq_cons (.p (eB false)) [(50, _)] ⟨.inr ⟨28, rfl, rfl⟩, trivial⟩ (fun sl hsl K hK => one_op rfl (ok_move rfl rfl rfl (hsl _ _ rfl) hK)) rfl rfl rfl ?_
     refine dq_cons (.p (.val Go.undef)) [(1, _), (51, _)] ⟨.inl rfl, .inr ⟨29, rfl, rfl⟩, trivial⟩ (fun sl hsl K hK => one_no rfl rfl (hsl _ _ rfl) (rfl) rfl rfl hK) rfl rfl rfl ?_
     refine dq_cons (.p (.val Go.undef)) [(51, _), (52, _)] ⟨.inr ⟨29, rfl, rfl⟩, .inr ⟨30, rfl, rfl⟩, trivial⟩ (fun sl hsl K hK => one_no rfl rfl (hsl _ _ rfl) (rfl) rfl rfl hK) rfl rfl rfl ?_
     refine dq_cons (.p (.val Go.undef)) [(51, _), (53, _)] ⟨.inr ⟨29, rfl, rfl⟩, .inr ⟨31, rfl, rfl⟩, trivial⟩ (fun sl hsl K hK => one_no rfl rfl (hsl _ _ rfl) (rfl) rfl rfl hK) rfl rfl rfl ?_
     refine dq_cons (.p (eB false)) [(51, _), (54, _)] ⟨.inr ⟨29, rfl, rfl⟩, .inr ⟨32, rfl, rfl⟩, trivial⟩ (fun sl hsl K hK => one_op rfl (ok_pick_false rfl rfl rfl (hsl _ _ rfl) (rfl) rfl hK)) rfl rfl rfl ?_
     refine dq_cons (.p (eB false)) [(55, _)] ⟨.inr ⟨33, rfl, rfl⟩, trivial⟩ (fun sl hsl K hK => one_op rfl (ok_move rfl rfl rfl (hsl _ _ rfl) hK)) rfl rfl rfl ?_
     refine dq_cons (.p (.val Go.undef)) [(56, _)] ⟨.inr ⟨34, rfl, rfl⟩, trivial⟩ (fun sl hsl K hK => one_no rfl rfl (hsl _ _ rfl) (rfl) rfl rfl hK) rfl rfl rfl ?_
     refine dq_cons (.p (eB false)) [(56, _), (57, _)] ⟨.inr ⟨34, rfl, rfl⟩, .inr ⟨35, rfl, rfl⟩, trivial⟩ (fun sl hsl K hK => one_op rfl (ok_pick_false rfl rfl rfl (hsl _ _ rfl) (rfl) rfl hK)) rfl rfl rfl ?_
     refine dq_cons (.p (eB false)) [(58, _)] ⟨.inr ⟨36, rfl, rfl⟩, trivial⟩ (fun sl hsl K hK => one_op rfl (ok_move rfl rfl rfl (hsl _ _ rfl) hK)) rfl rfl rfl ?_
     refine dq_cons (.p (.val Go.undef)) [(59, _)] ⟨.inr ⟨37, rfl, rfl⟩, trivial⟩ (fun sl hsl K hK => one_no rfl rfl (hsl _ _ rfl) (rfl) rfl rfl hK) rfl rfl rfl ?_
     refine dq_cons (.p (.val Go.undef)) [(59, _), (60, _)] ⟨.inr ⟨37, rfl, rfl⟩, .inr ⟨38, rfl, rfl⟩, trivial⟩ (fun sl hsl K hK => one_no rfl rfl (hsl _ _ rfl) (rfl) rfl rfl hK) rfl rfl rfl ?_
     refine dq_cons (.p (eB false)) [(59, _), (61, _)] ⟨.inr ⟨37, rfl, rfl⟩, .inr ⟨39, rfl, rfl⟩, trivial⟩ (fun sl hsl K hK => one_op rfl (ok_pick_false rfl rfl rfl (hsl _ _ rfl) (rfl) rfl hK)) rfl rfl rfl ?_
     refine dq_cons (.p (eB false)) [(62, _)] ⟨.inr ⟨40, rfl, rfl⟩, trivial⟩ (fun sl hsl K hK => one_op rfl (ok_move rfl rfl rfl (hsl _ _ rfl) hK)) rfl rfl rfl ?_
     refine dq_cons (.p (.val Go.undef)) [(63, _)] ⟨.inr ⟨41, rfl, rfl⟩, trivial⟩ (fun sl hsl K hK => one_no rfl rfl (hsl _ _ rfl) (rfl) rfl rfl hK) rfl rfl rfl ?_
     refine dq_cons (.p (.val Go.undef)) [(63, _), (64, _)] ⟨.inr ⟨41, rfl, rfl⟩, .inr ⟨42, rfl, rfl⟩, trivial⟩ (fun sl hsl K hK => one_no rfl rfl (hsl _ _ rfl) (rfl) rfl rfl hK) rfl rfl rfl ?_
     refine dq_cons (.p (.val Go.undef)) [(63, _), (65, _)] ⟨.inr ⟨41, rfl, rfl⟩, .inr ⟨43, rfl, rfl⟩, trivial⟩ (fun sl hsl K hK => one_no rfl rfl (hsl _ _ rfl) (rfl) rfl rfl hK) rfl rfl rfl ?_
     refine dq_cons (.p (eB false)) [(63, _), (66, _)] ⟨.inr ⟨41, rfl, rfl⟩, .inr ⟨44, rfl, rfl⟩, trivial⟩ (fun sl hsl K hK => one_op rfl (ok_pick_false rfl rfl rfl (hsl _ _ rfl) (rfl) rfl hK)) rfl rfl rfl ?_
     refine dq_cons (.p (eB false)) [(67, _)] ⟨.inr ⟨45, rfl, rfl⟩, trivial⟩ (fun sl hsl K hK => one_op rfl (ok_assign rfl rfl rfl (hsl _ _ rfl) hK)) rfl rfl rfl ?_
     refine dq_nil ?_
     (repeat (first | refine uw ?_ | refine uo rfl ?_))
     have e1 := oi h1
     subst e1
     exact ghost_le (le_mk ⟨er rfl, trivial⟩ trivial)
   ·replace h1 := if_f c12 h1
    refine awp_drawQ [(1, .p (eS ([109, 111, 100, 117, 108, 101, 46, 97, 91, 34, 120, 34, 93, 46, 115, 101, 114, 118, 101, 114, 46, 119, 101, 98, 91, 48, 93] : Bytes))), (2, .ptr 2 0), (3, .p (eI r1.2)), (4, .p (eS r3.1)), (5, .p (eI r3.2)), (7, .p (eI r5.2))] rfl ⟨rfl, rfl, rfl, rfl, rfl, rfl, trivial⟩ rfl ?_
    refine dq_cons (.p (.agg (TAddress.cs r7))) [] trivial (fun sl hsl K hK => one_op rfl (ok_callP (law06_example_ok  _ e8) rfl rfl rfl args_nil trivial Tryz.call24 rfl hK)) rfl rfl rfl ?_
    refine dq_cons (.p (eS r9)) [(22, _)] ⟨.inr ⟨0, rfl, rfl⟩, trivial⟩ (fun sl hsl K hK => one_op rfl (ok_callP (address_Format_ok _ r7 _ e10) rfl rfl rfl (args_cons (hsl _ _ rfl) args_nil) ⟨sr, trivial⟩ Tryz.call11 rfl hK)) rfl rfl rfl ?_
    refine dq_cons (.p (eS ([109, 111, 100, 117, 108, 101, 46, 97, 91, 34, 120, 34, 93, 46, 115, 101, 114, 118, 101, 114, 46, 119, 101, 98, 91, 48, 93] : Bytes))) [(1, _)] ⟨.inl rfl, trivial⟩ (fun sl hsl K hK => one_op rfl (ok_move rfl rfl rfl (hsl _ _ rfl) hK)) rfl rfl rfl ?_
    refine dq_cons (.p (eB (decide (r9 = ([109, 111, 100, 117, 108, 101, 46, 97, 91, 34, 120, 34, 93, 46, 115, 101, 114, 118, 101, 114, 46, 119, 101, 98, 91, 48, 93] : Bytes))))) [(23, _), (24, _)] ⟨.inr ⟨1, rfl, rfl⟩, .inr ⟨2, rfl, rfl⟩, trivial⟩ (fun sl hsl K hK => one_op rfl (ok_cmpS rfl rfl rfl (hsl _ _ rfl) (hsl _ _ rfl) rfl hK)) rfl rfl rfl ?_
    refine dq_cons (.p (eB (decide (r9 = ([109, 111, 100, 117, 108, 101, 46, 97, 91, 34, 120, 34, 93, 46, 115, 101, 114, 118, 101, 114, 46, 119, 101, 98, 91, 48, 93] : Bytes))))) [(25, _)] ⟨.inr ⟨3, rfl, rfl⟩, trivial⟩ (fun sl hsl K hK => one_op rfl (ok_move rfl rfl rfl (hsl _ _ rfl) hK)) rfl rfl rfl ?_
    refine dq_cons (.p (eI r1.2)) [(3, _), (26, _)] ⟨.inl rfl, .inr ⟨4, rfl, rfl⟩, trivial⟩ (fun sl hsl K hK => one_yes (ok_move rfl rfl rfl (hsl _ _ rfl) hK) rfl rfl (hsl _ _ rfl) (dt c11)) rfl rfl rfl ?_
    refine dq_cons (.p (eB (decide (r1.2 = 0)))) [(26, _), (27, _)] ⟨.inr ⟨4, rfl, rfl⟩, .inr ⟨5, rfl, rfl⟩, trivial⟩ (fun sl hsl K hK => one_yes (ok_cmp rfl rfl rfl (hsl _ _ rfl) rfl rfl hK) rfl rfl (hsl _ _ rfl) (dt c11)) rfl rfl rfl ?_
    refine dq_cons (.p (eB (decide (r1.2 = 0)))) [(26, _), (28, _)] ⟨.inr ⟨4, rfl, rfl⟩, .inr ⟨6, rfl, rfl⟩, trivial⟩ (fun sl hsl K hK => one_op rfl (ok_pick_true rfl rfl rfl (hsl _ _ rfl) (dt c11) (hsl _ _ rfl) hK)) rfl rfl rfl ?_
    refine dq_cons (.p (eB (decide (r1.2 = 0)))) [(29, _)] ⟨.inr ⟨7, rfl, rfl⟩, trivial⟩ (fun sl hsl K hK => one_op rfl (ok_move rfl rfl rfl (hsl _ _ rfl) hK)) rfl rfl rfl ?_
    refine dq_cons (.p (.val Go.undef)) [(2, _), (30, _)] ⟨.inl rfl, .inr ⟨8, rfl, rfl⟩, trivial⟩ (fun sl hsl K hK => one_no rfl rfl (hsl _ _ rfl) (df c12) rfl rfl hK) rfl rfl rfl ?_
    refine dq_cons (.p (.val Go.undef)) [(30, _)] ⟨.inr ⟨8, rfl, rfl⟩, trivial⟩ (fun sl hsl K hK => one_no rfl rfl (hsl _ _ rfl) (df c12) rfl rfl hK) rfl rfl rfl ?_
    refine dq_cons (.p (.val Go.undef)) [(30, _), (31, _), (32, _)] ⟨.inr ⟨8, rfl, rfl⟩, .inr ⟨9, rfl, rfl⟩, .inr ⟨10, rfl, rfl⟩, trivial⟩ (fun sl hsl K hK => one_no rfl rfl (hsl _ _ rfl) (df c12) rfl rfl hK) rfl rfl rfl ?_
    refine dq_cons (.p (eB false)) [(30, _), (33, _)] ⟨.inr ⟨8, rfl, rfl⟩, .inr ⟨11, rfl, rfl⟩, trivial⟩ (fun sl hsl K hK => one_op rfl (ok_pick_false rfl rfl rfl (hsl _ _ rfl) (df c12) rfl hK)) rfl rfl rfl ?_
    refine dq_cons (.p (eB false)) [(34, _)] ⟨.inr ⟨12, rfl, rfl⟩, trivial⟩ (fun sl hsl K hK => one_op rfl (ok_move rfl rfl rfl (hsl _ _ rfl) hK)) rfl rfl rfl ?_
    refine dq_cons (.p (.val Go.undef)) [(4, _), (35, _)] ⟨.inl rfl, .inr ⟨13, rfl, rfl⟩, trivial⟩ (fun sl hsl K hK => one_no rfl rfl (hsl _ _ rfl) (rfl) rfl rfl hK) rfl rfl rfl ?_
    refine dq_cons (.p (.val Go.undef)) [(35, _), (36, _)] ⟨.inr ⟨13, rfl, rfl⟩, .inr ⟨14, rfl, rfl⟩, trivial⟩ (fun sl hsl K hK => one_no rfl rfl (hsl _ _ rfl) (rfl) rfl rfl hK) rfl rfl rfl ?_
    refine dq_cons (.p (eB false)) [(35, _), (37, _)] ⟨.inr ⟨13, rfl, rfl⟩, .inr ⟨15, rfl, rfl⟩, trivial⟩ (fun sl hsl K hK => one_op rfl (ok_pick_false rfl rfl rfl (hsl _ _ rfl) (rfl) rfl hK)) rfl rfl rfl ?_
    refine dq_cons (.p (eB false)) [(38, _)] ⟨.inr ⟨16, rfl, rfl⟩, trivial⟩ (fun sl hsl K hK => one_op rfl (ok_move rfl rfl rfl (hsl _ _ rfl) hK)) rfl rfl rfl ?_
    refine dq_cons (.p (.val Go.undef)) [(5, _), (39, _)] ⟨.inl rfl, .inr ⟨17, rfl, rfl⟩, trivial⟩ (fun sl hsl K hK => one_no rfl rfl (hsl _ _ rfl) (rfl) rfl rfl hK) rfl rfl rfl ?_
    refine dq_cons (.p (.val Go.undef)) [(39, _), (40, _)] ⟨.inr ⟨17, rfl, rfl⟩, .inr ⟨18, rfl, rfl⟩, trivial⟩ (fun sl hsl K hK => one_no rfl rfl (hsl _ _ rfl) (rfl) rfl rfl hK) rfl rfl rfl ?_
    refine dq_cons (.p (eB false)) [(39, _), (41, _)] ⟨.inr ⟨17, rfl, rfl⟩, .inr ⟨19, rfl, rfl⟩, trivial⟩ (fun sl hsl K hK => one_op rfl (ok_pick_false rfl rfl rfl (hsl _ _ rfl) (rfl) rfl hK)) rfl rfl rfl ?_
    refine dq_cons (.p (eB false)) [(42, _)] ⟨.inr ⟨20, rfl, rfl⟩, trivial⟩ (fun sl hsl K hK => one_op rfl (ok_move rfl rfl rfl (hsl _ _ rfl) hK)) rfl rfl rfl ?_
    refine dq_cons (.p (.val Go.undef)) [(7, _), (43, _)] ⟨.inl rfl, .inr ⟨21, rfl, rfl⟩, trivial⟩ (fun sl hsl K hK => one_no rfl rfl (hsl _ _ rfl) (rfl) rfl rfl hK) rfl rfl rfl ?_
    refine dq_cons (.p (.val Go.undef)) [(43, _), (44, _)] ⟨.inr ⟨21, rfl, rfl⟩, .inr ⟨22, rfl, rfl⟩, trivial⟩ (fun sl hsl K hK => one_no rfl rfl (hsl _ _ rfl) (rfl) rfl rfl hK) rfl rfl rfl ?_
    refine dq_cons (.p (eB false)) [(43, _), (45, _)] ⟨.inr ⟨21, rfl, rfl⟩, .inr ⟨23, rfl, rfl⟩, trivial⟩ (fun sl hsl K hK => one_op rfl (ok_pick_false rfl rfl rfl (hsl _ _ rfl) (rfl) rfl hK)) rfl rfl rfl ?_
    refine dq_cons (.p (eB false)) [(46, _)] ⟨.inr ⟨24, rfl, rfl⟩, trivial⟩ (fun sl hsl K hK => one_op rfl (ok_move rfl rfl rfl (hsl _ _ rfl) hK)) rfl rfl rfl ?_
    refine dq_cons (.p (.val Go.undef)) [(1, _), (47, _)] ⟨.inl rfl, .inr ⟨25, rfl, rfl⟩, trivial⟩ (fun sl hsl K hK => one_no rfl rfl (hsl _ _ rfl) (rfl) rfl rfl hK) rfl rfl rfl ?_
    refine dq_cons (.p (.val Go.undef)) [(47, _), (48, _)] ⟨.inr ⟨25, rfl, rfl⟩, .inr ⟨26, rfl, rfl⟩, trivial⟩ (fun sl hsl K hK => one_no rfl rfl (hsl _ _ rfl) (rfl) rfl rfl hK) rfl rfl rfl ?_
    refine dq_cons (.p (eB false)) [(47, _), (49, _)] ⟨.inr ⟨25, rfl, rfl⟩, .inr ⟨27, rfl, rfl⟩, trivial⟩ (fun sl hsl K hK => one_op rfl (ok_pick_false rfl rfl rfl (hsl _ _ rfl) (rfl) rfl hK)) rfl rfl rfl ?_
    refine dq_cons (.p (eB false)) [(50, _)] ⟨.inr ⟨28, rfl, rfl⟩, trivial⟩ (fun sl hsl K hK => one_op rfl (ok_move rfl rfl rfl (hsl _ _ rfl) hK)) rfl rfl rfl ?_
    refine dq_cons (.p (.val Go.undef)) [(1, _), (51, _)] ⟨.inl rfl, .inr ⟨29, rfl, rfl⟩, trivial⟩ (fun sl hsl K hK => one_no rfl rfl (hsl _ _ rfl) (rfl) rfl rfl hK) rfl rfl rfl ?_
    refine dq_cons (.p (.val Go.undef)) [(51, _), (52, _)] ⟨.inr ⟨29, rfl, rfl⟩, .inr ⟨30, rfl, rfl⟩, trivial⟩ (fun sl hsl K hK => one_no rfl rfl (hsl _ _ rfl) (rfl) rfl rfl hK) rfl rfl rfl ?_
    refine dq_cons (.p (.val Go.undef)) [(51, _), (53, _)] ⟨.inr ⟨29, rfl, rfl⟩, .inr ⟨31, rfl, rfl⟩, trivial⟩ (fun sl hsl K hK => one_no rfl rfl (hsl _ _ rfl) (rfl) rfl rfl hK) rfl rfl rfl ?_
    refine dq_cons (.p (eB false)) [(51, _), (54, _)] ⟨.inr ⟨29, rfl, rfl⟩, .inr ⟨32, rfl, rfl⟩, trivial⟩ (fun sl hsl K hK => one_op rfl (ok_pick_false rfl rfl rfl (hsl _ _ rfl) (rfl) rfl hK)) rfl rfl rfl ?_
    refine dq_cons (.p (eB false)) [(55, _)] ⟨.inr ⟨33, rfl, rfl⟩, trivial⟩ (fun sl hsl K hK => one_op rfl (ok_move rfl rfl rfl (hsl _ _ rfl) hK)) rfl rfl rfl ?_
    refine dq_cons (.p (.val Go.undef)) [(56, _)] ⟨.inr ⟨34, rfl, rfl⟩, trivial⟩ (fun sl hsl K hK => one_no rfl rfl (hsl _ _ rfl) (rfl) rfl rfl hK) rfl rfl rfl ?_
    refine dq_cons (.p (eB false)) [(56, _), (57, _)] ⟨.inr ⟨34, rfl, rfl⟩, .inr ⟨35, rfl, rfl⟩, trivial⟩ (fun sl hsl K hK => one_op rfl (ok_pick_false rfl rfl rfl (hsl _ _ rfl) (rfl) rfl hK)) rfl rfl rfl ?_
    refine dq_cons (.p (eB false)) [(58, _)] ⟨.inr ⟨36, rfl, rfl⟩, trivial⟩ (fun sl hsl K hK => one_op rfl (ok_move rfl rfl rfl (hsl _ _ rfl) hK)) rfl rfl rfl ?_
    refine dq_cons (.p (.val Go.undef)) [(59, _)] ⟨.inr ⟨37, rfl, rfl⟩, trivial⟩ (fun sl hsl K hK => one_no rfl rfl (hsl _ _ rfl) (rfl) rfl rfl hK) rfl rfl rfl ?_
    refine dq_cons (.p (.val Go.undef)) [(59, _), (60, _)] ⟨.inr ⟨37, rfl, rfl⟩, .inr ⟨38, rfl, rfl⟩, trivial⟩ (fun sl hsl K hK => one_no rfl rfl (hsl _ _ rfl) (rfl) rfl rfl hK) rfl rfl rfl ?_
    refine dq_cons (.p (eB false)) [(59, _), (61, _)] ⟨.inr ⟨37, rfl, rfl⟩, .inr ⟨39, rfl, rfl⟩, trivial⟩ (fun sl hsl K hK => one_op rfl (ok_pick_false rfl rfl rfl (hsl _ _ rfl) (rfl) rfl hK)) rfl rfl rfl ?_
    refine dq_cons (.p (eB false)) [(62, _)] ⟨.inr ⟨40, rfl, rfl⟩, trivial⟩ (fun sl hsl K hK => one_op rfl (ok_move rfl rfl rfl (hsl _ _ rfl) hK)) rfl rfl rfl ?_
    refine dq_cons (.p (.val Go.undef)) [(63, _)] ⟨.inr ⟨41, rfl, rfl⟩, trivial⟩ (fun sl hsl K hK => one_no rfl rfl (hsl _ _ rfl) (rfl) rfl rfl hK) rfl rfl rfl ?_
    refine dq_cons (.p (.val Go.undef)) [(63, _), (64, _)] ⟨.inr ⟨41, rfl, rfl⟩, .inr ⟨42, rfl, rfl⟩, trivial⟩ (fun sl hsl K hK => one_no rfl rfl (hsl _ _ rfl) (rfl) rfl rfl hK) rfl rfl rfl ?_
    refine dq_cons (.p (.val Go.undef)) [(63, _), (65, _)] ⟨.inr ⟨41, rfl, rfl⟩, .inr ⟨43, rfl, rfl⟩, trivial⟩ (fun sl hsl K hK => one_no rfl rfl (hsl _ _ rfl) (rfl) rfl rfl hK) rfl rfl rfl ?_
    refine dq_cons (.p (eB false)) [(63, _), (66, _)] ⟨.inr ⟨41, rfl, rfl⟩, .inr ⟨44, rfl, rfl⟩, trivial⟩ (fun sl hsl K hK => one_op rfl (ok_pick_false rfl rfl rfl (hsl _ _ rfl) (rfl) rfl hK)) rfl rfl rfl ?_
    refine dq_cons (.p (eB false)) [(67, _)] ⟨.inr ⟨45, rfl, rfl⟩, trivial⟩ (fun sl hsl K hK => one_op rfl (ok_assign rfl rfl rfl (hsl _ _ rfl) hK)) rfl rfl rfl ?_
    refine dq_nil ?_
    (repeat (first | refine uw ?_ | refine uo rfl ?_))
    have e1 := oi h1
    subst e1
    exact ghost_le (le_mk ⟨er rfl, trivial⟩ trivial)
  ·replace h1 := if_f c11 h1
   refine awp_drawQ [(1, .p (eS ([109, 111, 100, 117, 108, 101, 46, 97, 91, 34, 120, 34, 93, 46, 115, 101, 114, 118, 101, 114, 46, 119, 101, 98, 91, 48, 93] : Bytes))), (2, .ptr 2 0), (3, .p (eI r1.2)), (4, .p (eS r3.1)), (5, .p (eI r3.2)), (7, .p (eI r5.2))] rfl ⟨rfl, rfl, rfl, rfl, rfl, rfl, trivial⟩ rfl ?_
   refine dq_cons (.p (.agg (TAddress.cs r7))) [] trivial (fun sl hsl K hK => one_op rfl (ok_callP (law06_example_ok  _ e8) rfl rfl rfl args_nil trivial Tryz.call24 rfl hK)) rfl rfl rfl ?_
   refine dq_cons (.p (eS r9)) [(22, _)] ⟨.inr ⟨0, rfl, rfl⟩, trivial⟩ (fun sl hsl K hK => one_op rfl (ok_callP (address_Format_ok _ r7 _ e10) rfl rfl rfl (args_cons (hsl _ _ rfl) args_nil) ⟨sr, trivial⟩ Tryz.call11 rfl hK)) rfl rfl rfl ?_
   refine dq_cons (.p (eS ([109, 111, 100, 117, 108, 101, 46, 97, 91, 34, 120, 34, 93, 46, 115, 101, 114, 118, 101, 114, 46, 119, 101, 98, 91, 48, 93] : Bytes))) [(1, _)] ⟨.inl rfl, trivial⟩ (fun sl hsl K hK => one_op rfl (ok_move rfl rfl rfl (hsl _ _ rfl) hK)) rfl rfl rfl ?_
   refine dq_cons (.p (eB (decide (r9 = ([109, 111, 100, 117, 108, 101, 46, 97, 91, 34, 120, 34, 93, 46, 115, 101, 114, 118, 101, 114, 46, 119, 101, 98, 91, 48, 93] : Bytes))))) [(23, _), (24, _)] ⟨.inr ⟨1, rfl, rfl⟩, .inr ⟨2, rfl, rfl⟩, trivial⟩ (fun sl hsl K hK => one_op rfl (ok_cmpS rfl rfl rfl (hsl _ _ rfl) (hsl _ _ rfl) rfl hK)) rfl rfl rfl ?_
   refine dq_cons (.p (eB (decide (r9 = ([109, 111, 100, 117, 108, 101, 46, 97, 91, 34, 120, 34, 93, 46, 115, 101, 114, 118, 101, 114, 46, 119, 101, 98, 91, 48, 93] : Bytes))))) [(25, _)] ⟨.inr ⟨3, rfl, rfl⟩, trivial⟩ (fun sl hsl K hK => one_op rfl (ok_move rfl rfl rfl (hsl _ _ rfl) hK)) rfl rfl rfl ?_
   refine dq_cons (.p (.val Go.undef)) [(3, _), (26, _)] ⟨.inl rfl, .inr ⟨4, rfl, rfl⟩, trivial⟩ (fun sl hsl K hK => one_no rfl rfl (hsl _ _ rfl) (df c11) rfl rfl hK) rfl rfl rfl ?_
   refine dq_cons (.p (.val Go.undef)) [(26, _), (27, _)] ⟨.inr ⟨4, rfl, rfl⟩, .inr ⟨5, rfl, rfl⟩, trivial⟩ (fun sl hsl K hK => one_no rfl rfl (hsl _ _ rfl) (df c11) rfl rfl hK) rfl rfl rfl ?_
   refine dq_cons (.p (eB false)) [(26, _), (28, _)] ⟨.inr ⟨4, rfl, rfl⟩, .inr ⟨6, rfl, rfl⟩, trivial⟩ (fun sl hsl K hK => one_op rfl (ok_pick_false rfl rfl rfl (hsl _ _ rfl) (df c11) rfl hK)) rfl rfl rfl ?_
   refine dq_cons (.p (eB false)) [(29, _)] ⟨.inr ⟨7, rfl, rfl⟩, trivial⟩ (fun sl hsl K hK => one_op rfl (ok_move rfl rfl rfl (hsl _ _ rfl) hK)) rfl rfl rfl ?_
   refine dq_cons (.p (.val Go.undef)) [(2, _), (30, _)] ⟨.inl rfl, .inr ⟨8, rfl, rfl⟩, trivial⟩ (fun sl hsl K hK => one_no rfl rfl (hsl _ _ rfl) (rfl) rfl rfl hK) rfl rfl rfl ?_
   refine dq_cons (.p (.val Go.undef)) [(30, _)] ⟨.inr ⟨8, rfl, rfl⟩, trivial⟩ (fun sl hsl K hK => one_no rfl rfl (hsl _ _ rfl) (rfl) rfl rfl hK) rfl rfl rfl ?_
   refine dq_cons (.p (.val Go.undef)) [(30, _), (31, _), (32, _)] ⟨.inr ⟨8, rfl, rfl⟩, .inr ⟨9, rfl, rfl⟩, .inr ⟨10, rfl, rfl⟩, trivial⟩ (fun sl hsl K hK => one_no rfl rfl (hsl _ _ rfl) (rfl) rfl rfl hK) rfl rfl rfl ?_
   refine dq_cons (.p (eB false)) [(30, _), (33, _)] ⟨.inr ⟨8, rfl, rfl⟩, .inr ⟨11, rfl, rfl⟩, trivial⟩ (fun sl hsl K hK => one_op rfl (ok_pick_false rfl rfl rfl (hsl _ _ rfl) (rfl) rfl hK)) rfl rfl rfl ?_
   refine dq_cons (.p (eB false)) [(34, _)] ⟨.inr ⟨12, rfl, rfl⟩, trivial⟩ (fun sl hsl K hK => one_op rfl (ok_move rfl rfl rfl (hsl _ _ rfl) hK)) rfl rfl rfl ?_
   refine dq_cons (.p (.val Go.undef)) [(4, _), (35, _)] ⟨.inl rfl, .inr ⟨13, rfl, rfl⟩, trivial⟩ (fun sl hsl K hK => one_no rfl rfl (hsl _ _ rfl) (rfl) rfl rfl hK) rfl rfl rfl ?_
   refine dq_cons (.p (.val Go.undef)) [(35, _), (36, _)] ⟨.inr ⟨13, rfl, rfl⟩, .inr ⟨14, rfl, rfl⟩, trivial⟩ (fun sl hsl K hK => one_no rfl rfl (hsl _ _ rfl) (rfl) rfl rfl hK) rfl rfl rfl ?_
   refine dq_cons (.p (eB false)) [(35, _), (37, _)] ⟨.inr ⟨13, rfl, rfl⟩, .inr ⟨15, rfl, rfl⟩, trivial⟩ (fun sl hsl K hK => one_op rfl (ok_pick_false rfl rfl rfl (hsl _ _ rfl) (rfl) rfl hK)) rfl rfl rfl ?_
   refine dq_cons (.p (eB false)) [(38, _)] ⟨.inr ⟨16, rfl, rfl⟩, trivial⟩ (fun sl hsl K hK => one_op rfl (ok_move rfl rfl rfl (hsl _ _ rfl) hK)) rfl rfl rfl ?_
   refine dq_cons (.p (.val Go.undef)) [(5, _), (39, _)] ⟨.inl rfl, .inr ⟨17, rfl, rfl⟩, trivial⟩ (fun sl hsl K hK => one_no rfl rfl (hsl _ _ rfl) (rfl) rfl rfl hK) rfl rfl rfl ?_
   refine dq_cons (.p (.val Go.undef)) [(39, _), (40, _)] ⟨.inr ⟨17, rfl, rfl⟩, .inr ⟨18, rfl, rfl⟩, trivial⟩ (fun sl hsl K hK => one_no rfl rfl (hsl _ _ rfl) (rfl) rfl rfl hK) rfl rfl rfl ?_
   refine dq_cons (.p (eB false)) [(39, _), (41, _)] ⟨.inr ⟨17, rfl, rfl⟩, .inr ⟨19, rfl, rfl⟩, trivial⟩ (fun sl hsl K hK => one_op rfl (ok_pick_false rfl rfl rfl (hsl _ _ rfl) (rfl) rfl hK)) rfl rfl rfl ?_
   refine dq_cons (.p (eB false)) [(42, _)] ⟨.inr ⟨20, rfl, rfl⟩, trivial⟩ (fun sl hsl K hK => one_op rfl (ok_move rfl rfl rfl (hsl _ _ rfl) hK)) rfl rfl rfl ?_
   refine dq_cons (.p (.val Go.undef)) [(7, _), (43, _)] ⟨.inl rfl, .inr ⟨21, rfl, rfl⟩, trivial⟩ (fun sl hsl K hK => one_no rfl rfl (hsl _ _ rfl) (rfl) rfl rfl hK) rfl rfl rfl ?_
   refine dq_cons (.p (.val Go.undef)) [(43, _), (44, _)] ⟨.inr ⟨21, rfl, rfl⟩, .inr ⟨22, rfl, rfl⟩, trivial⟩ (fun sl hsl K hK => one_no rfl rfl (hsl _ _ rfl) (rfl) rfl rfl hK) rfl rfl rfl ?_
   refine dq_cons (.p (eB false)) [(43, _), (45, _)] ⟨.inr ⟨21, rfl, rfl⟩, .inr ⟨23, rfl, rfl⟩, trivial⟩ (fun sl hsl K hK => one_op rfl (ok_pick_false rfl rfl rfl (hsl _ _ rfl) (rfl) rfl hK)) rfl rfl rfl ?_
   refine dq_cons (.p (eB false)) [(46, _)] ⟨.inr ⟨24, rfl, rfl⟩, trivial⟩ (fun sl hsl K hK => one_op rfl (ok_move rfl rfl rfl (hsl _ _ rfl) hK)) rfl rfl rfl ?_
   refine dq_cons (.p (.val Go.undef)) [(1, _), (47, _)] ⟨.inl rfl, .inr ⟨25, rfl, rfl⟩, trivial⟩ (fun sl hsl K hK => one_no rfl rfl (hsl _ _ rfl) (rfl) rfl rfl hK) rfl rfl rfl ?_
   refine dq_cons (.p (.val Go.undef)) [(47, _), (48, _)] ⟨.inr ⟨25, rfl, rfl⟩, .inr ⟨26, rfl, rfl⟩, trivial⟩ (fun sl hsl K hK => one_no rfl rfl (hsl _ _ rfl) (rfl) rfl rfl hK) rfl rfl rfl ?_
   refine dq_cons (.p (eB false)) [(47, _), (49, _)] ⟨.inr ⟨25, rfl, rfl⟩, .inr ⟨27, rfl, rfl⟩, trivial⟩ (fun sl hsl K hK => one_op rfl (ok_pick_false rfl rfl rfl (hsl _ _ rfl) (rfl) rfl hK)) rfl rfl rfl ?_
   refine dq_cons (.p (eB false)) [(50, _)] ⟨.inr ⟨28, rfl, rfl⟩, trivial⟩ (fun sl hsl K hK => one_op rfl (ok_move rfl rfl rfl (hsl _ _ rfl) hK)) rfl rfl rfl ?_
   refine dq_cons (.p (.val Go.undef)) [(1, _), (51, _)] ⟨.inl rfl, .inr ⟨29, rfl, rfl⟩, trivial⟩ (fun sl hsl K hK => one_no rfl rfl (hsl _ _ rfl) (rfl) rfl rfl hK) rfl rfl rfl ?_
   refine dq_cons (.p (.val Go.undef)) [(51, _), (52, _)] ⟨.inr ⟨29, rfl, rfl⟩, .inr ⟨30, rfl, rfl⟩, trivial⟩ (fun sl hsl K hK => one_no rfl rfl (hsl _ _ rfl) (rfl) rfl rfl hK) rfl rfl rfl ?_
   refine dq_cons (.p (.val Go.undef)) [(51, _), (53, _)] ⟨.inr ⟨29, rfl, rfl⟩, .inr ⟨31, rfl, rfl⟩, trivial⟩ (fun sl hsl K hK => one_no rfl rfl (hsl _ _ rfl) (rfl) rfl rfl hK) rfl rfl rfl ?_
   refine dq_cons (.p (eB false)) [(51, _), (54, _)] ⟨.inr ⟨29, rfl, rfl⟩, .inr ⟨32, rfl, rfl⟩, trivial⟩ (fun sl hsl K hK => one_op rfl (ok_pick_false rfl rfl rfl (hsl _ _ rfl) (rfl) rfl hK)) rfl rfl rfl ?_
   refine dq_cons (.p (eB false)) [(55, _)] ⟨.inr ⟨33, rfl, rfl⟩, trivial⟩ (fun sl hsl K hK => one_op rfl (ok_move rfl rfl rfl (hsl _ _ rfl) hK)) rfl rfl rfl ?_
   refine dq_cons (.p (.val Go.undef)) [(56, _)] ⟨.inr ⟨34, rfl, rfl⟩, trivial⟩ (fun sl hsl K hK => one_no rfl rfl (hsl _ _ rfl) (rfl) rfl rfl hK) rfl rfl rfl ?_
   refine dq_cons (.p (eB false)) [(56, _), (57, _)] ⟨.inr ⟨34, rfl, rfl⟩, .inr ⟨35, rfl, rfl⟩, trivial⟩ (fun sl hsl K hK => one_op rfl (ok_pick_false rfl rfl rfl (hsl _ _ rfl) (rfl) rfl hK)) rfl rfl rfl ?_
   refine dq_cons (.p (eB false)) [(58, _)] ⟨.inr ⟨36, rfl, rfl⟩, trivial⟩ (fun sl hsl K hK => one_op rfl (ok_move rfl rfl rfl (hsl _ _ rfl) hK)) rfl rfl rfl ?_
   refine dq_cons (.p (.val Go.undef)) [(59, _)] ⟨.inr ⟨37, rfl, rfl⟩, trivial⟩ (fun sl hsl K hK => one_no rfl rfl (hsl _ _ rfl) (rfl) rfl rfl hK) rfl rfl rfl ?_
   refine dq_cons (.p (.val Go.undef)) [(59, _), (60, _)] ⟨.inr ⟨37, rfl, rfl⟩, .inr ⟨38, rfl, rfl⟩, trivial⟩ (fun sl hsl K hK => one_no rfl rfl (hsl _ _ rfl) (rfl) rfl rfl hK) rfl rfl rfl ?_
   refine dq_cons (.p (eB false)) [(59, _), (61, _)] ⟨.inr ⟨37, rfl, rfl⟩, .inr ⟨39, rfl, rfl⟩, trivial⟩ (fun sl hsl K hK => one_op rfl (ok_pick_false rfl rfl rfl (hsl _ _ rfl) (rfl) rfl hK)) rfl rfl rfl ?_
   refine dq_cons (.p (eB false)) [(62, _)] ⟨.inr ⟨40, rfl, rfl⟩, trivial⟩ (fun sl hsl K hK => one_op rfl (ok_move rfl rfl rfl (hsl _ _ rfl) hK)) rfl rfl rfl ?_
   refine dq_cons (.p (.val Go.undef)) [(63, _)] ⟨.inr ⟨41, rfl, rfl⟩, trivial⟩ (fun sl hsl K hK => one_no rfl rfl (hsl _ _ rfl) (rfl) rfl rfl hK) rfl rfl rfl ?_
   refine dq_cons (.p (.val Go.undef)) [(63, _), (64, _)] ⟨.inr ⟨41, rfl, rfl⟩, .inr ⟨42, rfl, rfl⟩, trivial⟩ (fun sl hsl K hK => one_no rfl rfl (hsl _ _ rfl) (rfl) rfl rfl hK) rfl rfl rfl ?_
   refine dq_cons (.p (.val Go.undef)) [(63, _), (65, _)] ⟨.inr ⟨41, rfl, rfl⟩, .inr ⟨43, rfl, rfl⟩, trivial⟩ (fun sl hsl K hK => one_no rfl rfl (hsl _ _ rfl) (rfl) rfl rfl hK) rfl rfl rfl ?_
   refine dq_cons (.p (eB false)) [(63, _), (66, _)] ⟨.inr ⟨41, rfl, rfl⟩, .inr ⟨44, rfl, rfl⟩, trivial⟩ (fun sl hsl K hK => one_op rfl (ok_pick_false rfl rfl rfl (hsl _ _ rfl) (rfl) rfl hK)) rfl rfl rfl ?_
   refine dq_cons (.p (eB false)) [(67, _)] ⟨.inr ⟨45, rfl, rfl⟩, trivial⟩ (fun sl hsl K hK => one_op rfl (ok_assign rfl rfl rfl (hsl _ _ rfl) hK)) rfl rfl rfl ?_
   refine dq_nil ?_
   (repeat (first | refine uw ?_ | refine uo rfl ?_))
   have e1 := oi h1
   subst e1
   exact ghost_le (le_mk ⟨er rfl, trivial⟩ trivial)

def ref06_letter (c_0 : Int) : Option Bool :=
 (
   if 97 ≤ c_0 then
    if c_0 ≤ 122 then
     some true
    else
     if 65 ≤ c_0 then
      if c_0 ≤ 90 then
       some true
      else
       some (decide (c_0 = 95))
     else
      some (decide (c_0 = 95))
   else
    if 65 ≤ c_0 then
     if c_0 ≤ 90 then
      some true
     else
      some (decide (c_0 = 95))
    else
     some (decide (c_0 = 95))
  : Option Bool).bind fun t7 =>
 some t7

set_option maxHeartbeats 4000000 in
theorem ref06_letter_ok (c_0 : Int) (r : Bool) (h0 : ref06_letter c_0 = some r) : PCalls Tryz.prog 62 [eK .u8 c_0] (· = .p (eB r)) := by
 unfold ref06_letter at h0
 refine pbodyA good Tryz.func62 rfl rfl rfl fun w0 => ?_
 refine awp_seq (awp_reg ?_)
 refine ro rfl (ok_assign rfl rfl rfl rfl ?_)
 refine rn ?_
 refine awp_seq ?_
 obtain ⟨o9, h1, h0⟩ := bd_cut h0
 refine awp_joinN ⟨[(2, .p (eB o9))], []⟩ ?_ ?_
 ·intro s' hle
  (repeat (first | refine uw ?_ | refine uo rfl ?_))
  refine awp_ghost hle ?_
  refine awp_ret ?_
  (repeat (first | refine uw ?_ | refine uo rfl ?_))
  have e0 := oi h0
  subst e0
  refine reta_mk rfl ?_
  exact sr
 ·skip
  refine awp_reg ?_
  refine ro rfl (ok_move rfl rfl rfl rfl ?_)
  refine ro rfl (ok_cmp rfl rfl rfl rfl rfl rfl ?_)
  refine ro rfl (ok_move rfl rfl rfl rfl ?_)
  refine gd_D rfl rfl rfl (fun c1 => ?_) (fun c1 => ?_)
  ·replace h1 := if_t c1 h1
   refine gd_tt rfl rfl rfl (dt c1) (ok_move rfl rfl rfl rfl ?_)
   refine gd_tt rfl rfl rfl (dt c1) (ok_cmp rfl rfl rfl rfl rfl rfl ?_)
   refine ro rfl (ok_pick_true rfl rfl rfl rfl (dt c1) rfl ?_)
   refine ro rfl (ok_move rfl rfl rfl rfl ?_)
   refine gd_D rfl rfl rfl (fun c2 => ?_) (fun c2 => ?_)
   ·replace h1 := if_t c2 h1
    refine gd_ft rfl rfl rfl (dt c2) rfl rfl ?_
    refine gd_ft rfl rfl rfl (dt c2) rfl rfl ?_
    refine gd_ft rfl rfl rfl (dt c2) rfl rfl ?_
    refine gd_none rfl rfl rfl rfl rfl ?_
    refine gd_none rfl rfl rfl rfl rfl ?_
    refine gd_ft rfl rfl rfl (dt c2) rfl rfl ?_
    refine ro rfl (ok_pick_true rfl rfl rfl rfl (dt c2) rfl ?_)
    refine ro rfl (ok_move rfl rfl rfl rfl ?_)
    refine gd_ft rfl rfl rfl (rfl) rfl rfl ?_
    refine gd_ft rfl rfl rfl (rfl) rfl rfl ?_
    refine ro rfl (ok_pick_true rfl rfl rfl rfl (rfl) rfl ?_)
    refine ro rfl (ok_assign rfl rfl rfl rfl ?_)
    refine rn ?_
    (repeat (first | refine uw ?_ | refine uo rfl ?_))
    have e1 := oi h1
    subst e1
    exact ghost_le (le_mk ⟨er rfl, trivial⟩ trivial)
   ·replace h1 := if_f c2 h1
    refine gd_ff rfl rfl rfl (df c2) (ok_move rfl rfl rfl rfl ?_)
    refine gd_ff rfl rfl rfl (df c2) (ok_cmp rfl rfl rfl rfl rfl rfl ?_)
    refine gd_ff rfl rfl rfl (df c2) (ok_move rfl rfl rfl rfl ?_)
    refine gd_D rfl rfl rfl (fun c3 => ?_) (fun c3 => ?_)
    ·replace h1 := if_t c3 h1
     refine gd_tt rfl rfl rfl (dt c3) (ok_move rfl rfl rfl rfl ?_)
     refine gd_tt rfl rfl rfl (dt c3) (ok_cmp rfl rfl rfl rfl rfl rfl ?_)
     refine gd_ff rfl rfl rfl (df c2) (ok_pick_true rfl rfl rfl rfl (dt c3) rfl ?_)
     refine ro rfl (ok_pick_false rfl rfl rfl rfl (df c2) rfl ?_)
     refine ro rfl (ok_move rfl rfl rfl rfl ?_)
     refine gd_D rfl rfl rfl (fun c4 => ?_) (fun c4 => ?_)
     ·replace h1 := if_t c4 h1
      refine gd_ft rfl rfl rfl (dt c4) rfl rfl ?_
      refine gd_ft rfl rfl rfl (dt c4) rfl rfl ?_
      refine ro rfl (ok_pick_true rfl rfl rfl rfl (dt c4) rfl ?_)
      refine ro rfl (ok_assign rfl rfl rfl rfl ?_)
      refine rn ?_
      (repeat (first | refine uw ?_ | refine uo rfl ?_))
      have e1 := oi h1
      subst e1
      exact ghost_le (le_mk ⟨er rfl, trivial⟩ trivial)
     ·replace h1 := if_f c4 h1
      refine gd_ff rfl rfl rfl (df c4) (ok_move rfl rfl rfl rfl ?_)
      refine gd_ff rfl rfl rfl (df c4) (ok_cmp rfl rfl rfl rfl rfl rfl ?_)
      refine ro rfl (ok_pick_false rfl rfl rfl rfl (df c4) rfl ?_)
      refine ro rfl (ok_assign rfl rfl rfl rfl ?_)
      refine rn ?_
      (repeat (first | refine uw ?_ | refine uo rfl ?_))
      have e1 := oi h1
      subst e1
      exact ghost_le (le_mk ⟨er rfl, trivial⟩ trivial)
    ·replace h1 := if_f c3 h1
     refine gd_tf rfl rfl rfl (df c3) rfl rfl ?_
     refine gd_tf rfl rfl rfl (df c3) rfl rfl ?_
     refine gd_ff rfl rfl rfl (df c2) (ok_pick_false rfl rfl rfl rfl (df c3) rfl ?_)
     refine ro rfl (ok_pick_false rfl rfl rfl rfl (df c2) rfl ?_)
     refine ro rfl (ok_move rfl rfl rfl rfl ?_)
     refine gd_ff rfl rfl rfl (rfl) (ok_move rfl rfl rfl rfl ?_)
     refine gd_ff rfl rfl rfl (rfl) (ok_cmp rfl rfl rfl rfl rfl rfl ?_)
     refine ro rfl (ok_pick_false rfl rfl rfl rfl (rfl) rfl ?_)
     refine ro rfl (ok_assign rfl rfl rfl rfl ?_)
     refine rn ?_
     (repeat (first | refine uw ?_ | refine uo rfl ?_))
     have e1 := oi h1
     subst e1
     exact ghost_le (le_mk ⟨er rfl, trivial⟩ trivial)
  ·replace h1 := if_f c1 h1
   refine gd_tf rfl rfl rfl (df c1) rfl rfl ?_
   refine gd_tf rfl rfl rfl (df c1) rfl rfl ?_
   refine ro rfl (ok_pick_false rfl rfl rfl rfl (df c1) rfl ?_)
   refine ro rfl (ok_move rfl rfl rfl rfl ?_)
   refine gd_ff rfl rfl rfl (rfl) (ok_move rfl rfl rfl rfl ?_)
   refine gd_ff rfl rfl rfl (rfl) (ok_cmp rfl rfl rfl rfl rfl rfl ?_)
   refine gd_ff rfl rfl rfl (rfl) (ok_move rfl rfl rfl rfl ?_)
   refine gd_D rfl rfl rfl (fun c5 => ?_) (fun c5 => ?_)
   ·replace h1 := if_t c5 h1
    refine gd_tt rfl rfl rfl (dt c5) (ok_move rfl rfl rfl rfl ?_)
    refine gd_tt rfl rfl rfl (dt c5) (ok_cmp rfl rfl rfl rfl rfl rfl ?_)
    refine gd_ff rfl rfl rfl (rfl) (ok_pick_true rfl rfl rfl rfl (dt c5) rfl ?_)
    refine ro rfl (ok_pick_false rfl rfl rfl rfl (rfl) rfl ?_)
    refine ro rfl (ok_move rfl rfl rfl rfl ?_)
    refine gd_D rfl rfl rfl (fun c6 => ?_) (fun c6 => ?_)
    ·replace h1 := if_t c6 h1
     refine gd_ft rfl rfl rfl (dt c6) rfl rfl ?_
     refine gd_ft rfl rfl rfl (dt c6) rfl rfl ?_
     refine ro rfl (ok_pick_true rfl rfl rfl rfl (dt c6) rfl ?_)
     refine ro rfl (ok_assign rfl rfl rfl rfl ?_)
     refine rn ?_
     (repeat (first | refine uw ?_ | refine uo rfl ?_))
     have e1 := oi h1
     subst e1
     exact ghost_le (le_mk ⟨er rfl, trivial⟩ trivial)
    ·replace h1 := if_f c6 h1
     refine gd_ff rfl rfl rfl (df c6) (ok_move rfl rfl rfl rfl ?_)
     refine gd_ff rfl rfl rfl (df c6) (ok_cmp rfl rfl rfl rfl rfl rfl ?_)
     refine ro rfl (ok_pick_false rfl rfl rfl rfl (df c6) rfl ?_)
     refine ro rfl (ok_assign rfl rfl rfl rfl ?_)
     refine rn ?_
     (repeat (first | refine uw ?_ | refine uo rfl ?_))
     have e1 := oi h1
     subst e1
     exact ghost_le (le_mk ⟨er rfl, trivial⟩ trivial)
   ·replace h1 := if_f c5 h1
    refine gd_tf rfl rfl rfl (df c5) rfl rfl ?_
    refine gd_tf rfl rfl rfl (df c5) rfl rfl ?_
    refine gd_ff rfl rfl rfl (rfl) (ok_pick_false rfl rfl rfl rfl (df c5) rfl ?_)
    refine ro rfl (ok_pick_false rfl rfl rfl rfl (rfl) rfl ?_)
    refine ro rfl (ok_move rfl rfl rfl rfl ?_)
    refine gd_ff rfl rfl rfl (rfl) (ok_move rfl rfl rfl rfl ?_)
    refine gd_ff rfl rfl rfl (rfl) (ok_cmp rfl rfl rfl rfl rfl rfl ?_)
    refine ro rfl (ok_pick_false rfl rfl rfl rfl (rfl) rfl ?_)
    refine ro rfl (ok_assign rfl rfl rfl rfl ?_)
    refine rn ?_
    (repeat (first | refine uw ?_ | refine uo rfl ?_))
    have e1 := oi h1
    subst e1
    exact ghost_le (le_mk ⟨er rfl, trivial⟩ trivial)

def ref06_Identifier_l1 (s_0 : Bytes) : Nat → Int → Option (Unit ⊕ Bool)
 | 0, _ => none
 | m + 1, i20 =>
 if i20 < (s_0.length : Int) then
  (
    ck ((0 : Int) ≤ i20 ∧ i20 < (s_0.length : Int)) <|
    (ref06_letter (byt s_0 i20)).bind fun r23 =>
    if (!r23) = true then
     ck ((0 : Int) ≤ i20 ∧ i20 < (s_0.length : Int)) <|
     if byt s_0 i20 < 48 then
      some true
     else
      ck ((0 : Int) ≤ i20 ∧ i20 < (s_0.length : Int)) <|
      some (decide (57 < byt s_0 i20))
    else
     some false
   : Option Bool).bind fun t29 =>
  if t29 = true then
   some (.inr false)
  else
   ck (inR (i20 + 1)) <|
   ref06_Identifier_l1 s_0 m (i20 + 1)
 else
  some (.inl ())

def ref06_Identifier (n : Nat) (s_0 : Bytes) : Option Bool :=
 (
   if s_0 = ([] : Bytes) then
    some true
   else
    if 64 < (s_0.length : Int) then
     some true
    else
     ck ((0 : Int) ≤ 0 ∧ 0 < (s_0.length : Int)) <|
     (ref06_letter (byt s_0 0)).bind fun r4 =>
     some (!r4)
  : Option Bool).bind fun t6 =>
 if t6 = true then
  some false
 else
  jn (ref06_Identifier_l1 s_0 n 0) fun q34 =>
  some true

set_option maxHeartbeats 4000000 in
theorem ref06_Identifier_ok (n : Nat) (s_0 : Bytes) (r : Bool) (h0 : ref06_Identifier n s_0 = some r) : PCalls Tryz.prog 28 [eS s_0] (· = .p (eB r)) := by
 unfold ref06_Identifier at h0
 refine pbodyA good Tryz.func28 rfl rfl rfl fun w0 => ?_
 refine awp_seq (awp_reg ?_)
 refine ro rfl (ok_assign rfl rfl rfl rfl ?_)
 refine rn ?_
 refine awp_seq (awp_seq ?_)
 obtain ⟨o36, h1, h0⟩ := bd_cut h0
 refine awp_joinN ⟨[(0, .p (eS s_0)), (16, .p (eB o36))], []⟩ ?_ ?_
 ·intro s' hle
  (repeat (first | refine uw ?_ | refine uo rfl ?_))
  refine awp_ghost hle ?_
  refine wp_if rfl (fun c7 => ?_) (fun c7 => ?_)
  ·replace h0 := if_t c7 h0
   refine awp_seq (awp_reg ?_)
   refine ro rfl (ok_assign rfl rfl rfl rfl ?_)
   refine rn ?_
   refine awp_ret ?_
   (repeat (first | refine uw ?_ | refine uo rfl ?_))
   have e0 := oi h0
   subst e0
   refine reta_mk rfl ?_
   exact sr
  ·replace h0 := if_bf c7 h0
   refine awp_skip (awp_seq (awp_seq (awp_reg ?_)))
   refine ro rfl (ok_assign rfl rfl rfl rfl ?_)
   refine rn ?_
   refine awp_block ?_
   obtain ⟨o38, h1, hL0, hR0⟩ := jn_cut h0
   refine awp_joinEx 0 (fun v39 : Unit => o38 = .inl v39) (fun v39 => ⟨[], []⟩) ?_ ?_
   ·rintro s' ⟨v39, hv, hle⟩
    have h0 := hL0 _ hv
    (repeat (first | refine uw ?_ | refine uo rfl ?_))
    refine awp_ghost hle ?_
    (repeat (first | refine uw ?_ | refine uo rfl ?_))
    refine awp_seq (awp_reg ?_)
    refine ro rfl (ok_assign rfl rfl rfl rfl ?_)
    refine rn ?_
    refine awp_ret ?_
    (repeat (first | refine uw ?_ | refine uo rfl ?_))
    have e0 := oi h0
    subst e0
    refine reta_mk rfl ?_
    exact sr
   ·skip
    refine awp_loopG (fun (q40 : Int) => ⟨[(0, .p (eS s_0)), (3, .p (eI q40))], []⟩) (fun m (q40 : Int) => ref06_Identifier_l1 s_0 m q40) (fun _ => rfl) 0 h1 (ghost_le (le_mk ⟨er rfl, er rfl, trivial⟩ trivial)) ?_
    rintro m i20 h1
    replace h1 : ref06_Identifier_l1 s_0 (m + 1) i20 = some o38 := h1
    rw [ref06_Identifier_l1] at h1
    refine awp_seq (awp_seq (awp_reg ?_))
    refine ro rfl (ok_move rfl rfl rfl rfl ?_)
    refine ro rfl (ok_move rfl rfl rfl rfl ?_)
    refine ro rfl (ok_lenS rfl rfl rfl rfl rfl rfl ?_)
    refine ro rfl (ok_cmp rfl rfl rfl rfl rfl rfl ?_)
    refine rn ?_
    refine wp_ifD rfl (fun c21 => ?_) (fun c21 => ?_)
    ·replace h1 := if_t c21 h1
     refine awp_skip (awp_seq (awp_block (awp_seq ?_)))
     obtain ⟨o41, h2, h1⟩ := bd_cut h1
     refine awp_joinN ⟨[(0, .p (eS s_0)), (3, .p (eI i20)), (39, .p (eB o41))], []⟩ ?_ ?_
     ·intro s' hle
      (repeat (first | refine uw ?_ | refine uo rfl ?_))
      refine awp_ghost hle ?_
      refine wp_if rfl (fun c30 => ?_) (fun c30 => ?_)
      ·replace h1 := if_t c30 h1
       refine awp_seq (awp_reg ?_)
       refine ro rfl (ok_assign rfl rfl rfl rfl ?_)
       refine rn ?_
       refine awp_ret ?_
       (repeat (first | refine uw ?_ | refine uo rfl ?_))
       have e1 := oi h1
       have e0 := hR0 _ e1.symm
       subst e0
       refine reta_mk rfl ?_
       exact sr
      ·replace h1 := if_bf c30 h1
       refine awp_skip ?_
       (repeat (first | refine uw ?_ | refine uo rfl ?_))
       refine awp_reg ?_
       refine ro rfl (ok_move rfl rfl rfl rfl ?_)
       obtain ⟨hk31, h1⟩ := ck_cut h1
       refine ro rfl (ok_ar rfl rfl rfl rfl rfl rfl hk31 ?_)
       refine ro rfl (ok_assign rfl rfl rfl rfl ?_)
       refine rn ?_
       (repeat (first | refine uw ?_ | refine uo rfl ?_))
       exact ⟨(i20 + 1), h1, ghost_le (le_mk ⟨er rfl, er rfl, trivial⟩ trivial)⟩
     ·skip
      refine awp_reg ?_
      refine ro rfl (ok_move rfl rfl rfl rfl ?_)
      refine ro rfl (ok_move rfl rfl rfl rfl ?_)
      obtain ⟨hk22, h2⟩ := ck_cut h2
      refine ro rfl (op_indexS rfl rfl rfl rfl rfl rfl rfl hk22 ?_)
      obtain ⟨r23, e24, h2⟩ := bd_cut h2
      refine ro rfl (ok_callP (ref06_letter_ok (byt s_0 i20) _ e24) rfl rfl rfl rfl ⟨sr, trivial⟩ Tryz.call62 rfl ?_)
      refine ro rfl (ok_not rfl rfl rfl rfl ?_)
      refine ro rfl (ok_move rfl rfl rfl rfl ?_)
      refine gd_B rfl rfl rfl (fun c25 => ?_) (fun c25 => ?_)
      ·replace h2 := if_t c25 h2
       refine gd_tt rfl rfl rfl (c25) (ok_move rfl rfl rfl rfl ?_)
       refine gd_tt rfl rfl rfl (c25) (ok_move rfl rfl rfl rfl ?_)
       obtain ⟨hk26, h2⟩ := ck_cut h2
       refine gd_tt rfl rfl rfl (c25) (op_indexS rfl rfl rfl rfl rfl rfl rfl hk26 ?_)
       refine gd_tt rfl rfl rfl (c25) (ok_cmp rfl rfl rfl rfl rfl rfl ?_)
       refine gd_tt rfl rfl rfl (c25) (ok_move rfl rfl rfl rfl ?_)
       refine gd_D rfl rfl rfl (fun c27 => ?_) (fun c27 => ?_)
       ·replace h2 := if_t c27 h2
        refine gd_ft rfl rfl rfl (dt c27) rfl rfl ?_
        refine gd_ft rfl rfl rfl (dt c27) rfl rfl ?_
        refine gd_ft rfl rfl rfl (dt c27) rfl rfl ?_
        refine gd_ft rfl rfl rfl (dt c27) rfl rfl ?_
        refine gd_tt rfl rfl rfl (c25) (ok_pick_true rfl rfl rfl rfl (dt c27) rfl ?_)
        refine ro rfl (ok_pick_true rfl rfl rfl rfl (c25) rfl ?_)
        refine rn ?_
        (repeat (first | refine uw ?_ | refine uo rfl ?_))
        have e2 := oi h2
        subst e2
        exact ghost_le (le_mk ⟨er rfl, er rfl, er rfl, trivial⟩ trivial)
       ·replace h2 := if_f c27 h2
        refine gd_ff rfl rfl rfl (df c27) (ok_move rfl rfl rfl rfl ?_)
        refine gd_ff rfl rfl rfl (df c27) (ok_move rfl rfl rfl rfl ?_)
        obtain ⟨hk28, h2⟩ := ck_cut h2
        refine gd_ff rfl rfl rfl (df c27) (op_indexS rfl rfl rfl rfl rfl rfl rfl hk28 ?_)
        refine gd_ff rfl rfl rfl (df c27) (ok_cmp rfl rfl rfl rfl rfl rfl ?_)
        refine gd_tt rfl rfl rfl (c25) (ok_pick_false rfl rfl rfl rfl (df c27) rfl ?_)
        refine ro rfl (ok_pick_true rfl rfl rfl rfl (c25) rfl ?_)
        refine rn ?_
        (repeat (first | refine uw ?_ | refine uo rfl ?_))
        have e2 := oi h2
        subst e2
        exact ghost_le (le_mk ⟨er rfl, er rfl, er rfl, trivial⟩ trivial)
      ·replace h2 := if_bf c25 h2
       refine gd_tf rfl rfl rfl (c25) rfl rfl ?_
       refine gd_tf rfl rfl rfl (c25) rfl rfl ?_
       refine gd_tf rfl rfl rfl (c25) rfl rfl ?_
       refine gd_tf rfl rfl rfl (c25) rfl rfl ?_
       refine gd_tf rfl rfl rfl (c25) rfl rfl ?_
       refine gd_none rfl rfl rfl rfl rfl ?_
       refine gd_none rfl rfl rfl rfl rfl ?_
       refine gd_none rfl rfl rfl rfl rfl ?_
       refine gd_none rfl rfl rfl rfl rfl ?_
       refine gd_tf rfl rfl rfl (c25) rfl rfl ?_
       refine ro rfl (ok_pick_false rfl rfl rfl rfl (c25) rfl ?_)
       refine rn ?_
       (repeat (first | refine uw ?_ | refine uo rfl ?_))
       have e2 := oi h2
       subst e2
       exact ghost_le (le_mk ⟨er rfl, er rfl, er rfl, trivial⟩ trivial)
    ·replace h1 := if_f c21 h1
     refine awp_exit ?_
     (repeat (first | refine uw ?_ | refine uo rfl ?_))
     have e1 := oi h1
     exact ⟨_, e1.symm, ghost_le (le_mk trivial trivial)⟩
 ·skip
  refine awp_reg ?_
  refine ro rfl (ok_move rfl rfl rfl rfl ?_)
  refine ro rfl (ok_cmpS rfl rfl rfl rfl rfl rfl ?_)
  refine ro rfl (ok_move rfl rfl rfl rfl ?_)
  refine gd_D rfl rfl rfl (fun c1 => ?_) (fun c1 => ?_)
  ·replace h1 := if_t c1 h1
   refine gd_ft rfl rfl rfl (dt c1) rfl rfl ?_
   refine gd_ft rfl rfl rfl (dt c1) rfl rfl ?_
   refine gd_ft rfl rfl rfl (dt c1) rfl rfl ?_
   refine ro rfl (ok_pick_true rfl rfl rfl rfl (dt c1) rfl ?_)
   refine ro rfl (ok_move rfl rfl rfl rfl ?_)
   refine gd_ft rfl rfl rfl (rfl) rfl rfl ?_
   refine gd_ft rfl rfl rfl (rfl) rfl rfl ?_
   refine gd_ft rfl rfl rfl (rfl) rfl rfl ?_
   refine gd_ft rfl rfl rfl (rfl) rfl rfl ?_
   refine ro rfl (ok_pick_true rfl rfl rfl rfl (rfl) rfl ?_)
   refine rn ?_
   (repeat (first | refine uw ?_ | refine uo rfl ?_))
   have e1 := oi h1
   subst e1
   exact ghost_le (le_mk ⟨er rfl, er rfl, trivial⟩ trivial)
  ·replace h1 := if_f c1 h1
   refine gd_ff rfl rfl rfl (df c1) (ok_move rfl rfl rfl rfl ?_)
   refine gd_ff rfl rfl rfl (df c1) (ok_lenS rfl rfl rfl rfl rfl rfl ?_)
   refine gd_ff rfl rfl rfl (df c1) (ok_cmp rfl rfl rfl rfl rfl rfl ?_)
   refine ro rfl (ok_pick_false rfl rfl rfl rfl (df c1) rfl ?_)
   refine ro rfl (ok_move rfl rfl rfl rfl ?_)
   refine gd_D rfl rfl rfl (fun c2 => ?_) (fun c2 => ?_)
   ·replace h1 := if_t c2 h1
    refine gd_ft rfl rfl rfl (dt c2) rfl rfl ?_
    refine gd_ft rfl rfl rfl (dt c2) rfl rfl ?_
    refine gd_ft rfl rfl rfl (dt c2) rfl rfl ?_
    refine gd_ft rfl rfl rfl (dt c2) rfl rfl ?_
    refine ro rfl (ok_pick_true rfl rfl rfl rfl (dt c2) rfl ?_)
    refine rn ?_
    (repeat (first | refine uw ?_ | refine uo rfl ?_))
    have e1 := oi h1
    subst e1
    exact ghost_le (le_mk ⟨er rfl, er rfl, trivial⟩ trivial)
   ·replace h1 := if_f c2 h1
    refine gd_ff rfl rfl rfl (df c2) (ok_move rfl rfl rfl rfl ?_)
    obtain ⟨hk3, h1⟩ := ck_cut h1
    refine gd_ff rfl rfl rfl (df c2) (op_indexS rfl rfl rfl rfl rfl rfl rfl hk3 ?_)
    obtain ⟨r4, e5, h1⟩ := bd_cut h1
    refine gd_ff rfl rfl rfl (df c2) (ok_callP (ref06_letter_ok (byt s_0 0) _ e5) rfl rfl rfl rfl ⟨sr, trivial⟩ Tryz.call62 rfl ?_)
    refine gd_ff rfl rfl rfl (df c2) (ok_not rfl rfl rfl rfl ?_)
    refine ro rfl (ok_pick_false rfl rfl rfl rfl (df c2) rfl ?_)
    refine rn ?_
    (repeat (first | refine uw ?_ | refine uo rfl ?_))
    have e1 := oi h1
    subst e1
    exact ghost_le (le_mk ⟨er rfl, er rfl, trivial⟩ trivial)

end Go.Ab.R06
