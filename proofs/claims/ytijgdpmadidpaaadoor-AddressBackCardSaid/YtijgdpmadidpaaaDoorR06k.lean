/- Chapter 06. -/
import Derived.Test.YtijgdpmadidpaaaDoorR06f
set_option linter.unusedVariables false
set_option linter.unusedSimpArgs false
set_option linter.unnecessarySimpa false
namespace Go.Ab.R06
open Go.Proofs Go.Ab Go.Ab.RB
attribute [local irreducible] awp rwpL OpOk PCalls OCalls AV.sub

def law06_AddressBack_l1 (a_0 : TAddress) : Nat → Int → (List TModuleStep) → Option (List TModuleStep)
 | 0, _, _ => none
 | m + 1, i16, f17 =>
 if i16 < (a_0.fModule.length : Int) then
  ck ((0 : Int) ≤ i16 ∧ i16 < (a_0.fModule.length : Int)) <|
  ck ((f17.length + ([(TModuleStep.mk ((lat a_0.fModule i16).fName) (TKey.mk 0 0 ([] : Bytes)))]).length) * 48 ≤ 140737488355328) <|
  ck (inR (i16 + 1)) <|
  law06_AddressBack_l1 a_0 m (i16 + 1) (f17 ++ ([(TModuleStep.mk ((lat a_0.fModule i16).fName) (TKey.mk 0 0 ([] : Bytes)))]))
 else
  some f17

def law06_AddressBack (n : Nat) (a_0 : TAddress) : Option Bool :=
 (
   (law06_few n a_0).bind fun r1 =>
   if (!r1) = true then
    some true
   else
    (address_Check n a_0).bind fun r4 =>
    some (!decide (r4 = 0))
  : Option Bool).bind fun t6 =>
 if t6 = true then
  (law06_awake n).bind fun r8 =>
  some r8
 else
  (law06_AddressBack_l1 a_0 n 0 []).bind fun f24 =>
  (address_Format n a_0).bind fun r25 =>
  (address_Parse n r25).bind fun r27 =>
  (address_Static n r25).bind fun r29 =>
  (address_Static n r29.1).bind fun r31 =>
  (
    if r27.2 = 0 then
     (law06_Same n r27.1 a_0).bind fun r34 =>
     if r34 = true then
      if r29.2 = 0 then
       (address_Format n (TAddress.mk f24 a_0.fData a_0.fType a_0.fName (TKey.mk 0 0 ([] : Bytes)))).bind fun r38 =>
       if r29.1 = r38 then
        if r31.2 = 0 then
         if r31.1 = r29.1 then
          (law06_awake n).bind fun r43 =>
          some r43
         else
          some false
        else
         some false
       else
        some false
      else
       some false
     else
      some false
    else
     some false
   : Option Bool).bind fun t45 =>
  some t45

set_option maxHeartbeats 4000000 in
theorem law06_AddressBack_ok (n : Nat) (a_0 : TAddress) (r : Bool) (h0 : law06_AddressBack n a_0 = some r) : PCalls Tryd.prog 5 [.agg (TAddress.cs a_0)] (· = .p (eB r)) := by
 unfold law06_AddressBack at h0
 refine pbodyA good Tryd.func5 rfl rfl rfl fun w0 => ?_
 refine awp_seq (awp_reg ?_)
 refine ro rfl (ok_box rfl rfl rfl rfl rfl ?_)
 refine ro rfl (ok_assign rfl rfl rfl rfl ?_)
 refine rn ?_
 refine awp_seq (awp_seq ?_)
 obtain ⟨o49, h1, h0⟩ := bd_cut h0
 refine awp_joinN ⟨[(1, .ptr 1 0), (19, .p (eB o49))], [(1, [.p (eL eTModuleStep a_0.fModule), .p (eB a_0.fData), .p (eS a_0.fType), .p (eS a_0.fName), .p (eI a_0.fKey.fKind), .p (eI a_0.fKey.fNum), .p (eS a_0.fKey.fStr)])]⟩ ?_ ?_
 ·intro s' hle
  (repeat (first | refine uw ?_ | refine uo rfl ?_))
  refine awp_ghost hle ?_
  refine wp_if rfl (fun c7 => ?_) (fun c7 => ?_)
  ·replace h0 := if_t c7 h0
   refine awp_seq (awp_reg ?_)
   obtain ⟨r8, e9, h0⟩ := bd_cut h0
   refine ro rfl (ok_callP (law06_awake_ok _  _ e9) rfl rfl rfl rfl trivial Tryd.call9 rfl ?_)
   refine ro rfl (ok_assign rfl rfl rfl rfl ?_)
   refine rn ?_
   refine awp_ret ?_
   (repeat (first | refine uw ?_ | refine uo rfl ?_))
   have e0 := oi h0
   subst e0
   refine reta_mk rfl ?_
   exact sr
  ·replace h0 := if_bf c7 h0
   refine awp_skip (awp_seq (awp_reg ?_))
   refine ro rfl (ok_fieldAddrP rfl rfl rfl rfl rfl rfl rfl rfl rfl ?_)
   refine ro rfl (ok_loadP1 rfl rfl rfl rfl rfl rfl rfl rfl ?_)
   refine ro rfl (ok_fieldAddrP rfl rfl rfl rfl rfl rfl rfl rfl rfl ?_)
   refine ro rfl (ok_loadP1 rfl rfl rfl rfl rfl rfl rfl rfl ?_)
   refine ro rfl (ok_fieldAddrP rfl rfl rfl rfl rfl rfl rfl rfl rfl ?_)
   refine ro rfl (ok_loadP1 rfl rfl rfl rfl rfl rfl rfl rfl ?_)
   refine ro rfl (ok_build rfl rfl rfl rfl rfl rfl rfl rfl rfl ?_)
   refine ro rfl (ok_alloc rfl rfl rfl rfl rfl ?_)
   refine ro rfl (ok_store rfl rfl rfl rfl rfl rfl rfl rfl (Nat.le_of_ble_eq_true rfl) ?_)
   refine rn ?_
   refine awp_seq (awp_seq (awp_reg ?_))
   refine ro rfl (ok_assign rfl rfl rfl rfl ?_)
   refine rn ?_
   refine awp_block ?_
   obtain ⟨o51, h1, h0⟩ := bd_cut h0
   refine awp_joinE 0 ⟨[(1, .ptr 1 0), (3, .ptr 3 0)], [(1, [.p (eL eTModuleStep a_0.fModule), .p (eB a_0.fData), .p (eS a_0.fType), .p (eS a_0.fName), .p (eI a_0.fKey.fKind), .p (eI a_0.fKey.fNum), .p (eS a_0.fKey.fStr)]), (3, [.vec 45 4 0 (o51.map eTModuleStep), .p (eB a_0.fData), .p (eS a_0.fType), .p (eS a_0.fName), .p (eI 0), .p (eI 0), .p (eS ([] : Bytes))])]⟩ ?_ ?_
   ·intro s' hle
    (repeat (first | refine uw ?_ | refine uo rfl ?_))
    refine awp_ghost hle ?_
    (repeat (first | refine uw ?_ | refine uo rfl ?_))
    refine awp_seq (awp_reg ?_)
    refine ro rfl (ok_loadPA rfl rfl rfl rfl rfl rfl rfl rfl rfl ?_)
    obtain ⟨r25, e26, h0⟩ := bd_cut h0
    refine ro rfl (ok_callP (address_Format_ok _ a_0 _ e26) rfl rfl rfl rfl ⟨sr, trivial⟩ Tryd.call12 rfl ?_)
    refine ro rfl (ok_assign rfl rfl rfl rfl ?_)
    refine rn ?_
    refine awp_seq (awp_reg ?_)
    refine ro rfl (ok_move rfl rfl rfl rfl ?_)
    obtain ⟨r27, e28, h0⟩ := bd_cut h0
    refine ro rfl (ok_callP (address_Parse_ok _ r25 _ e28) rfl rfl rfl rfl ⟨sr, trivial⟩ Tryd.call10 rfl ?_)
    refine ro rfl (ok_move rfl rfl rfl rfl ?_)
    refine ro rfl (ok_extract rfl rfl rfl rfl rfl ?_)
    refine ro rfl (ok_extract rfl rfl rfl rfl rfl ?_)
    refine ro rfl (ok_alloc rfl rfl rfl rfl rfl ?_)
    refine ro rfl (ok_store rfl rfl rfl rfl rfl rfl rfl rfl (Nat.le_of_ble_eq_true rfl) ?_)
    refine ro rfl (ok_assign rfl rfl rfl rfl ?_)
    refine rn ?_
    refine awp_seq (awp_reg ?_)
    refine ro rfl (ok_move rfl rfl rfl rfl ?_)
    obtain ⟨r29, e30, h0⟩ := bd_cut h0
    refine ro rfl (ok_callP (address_Static_ok _ r25 _ e30) rfl rfl rfl rfl ⟨sr, trivial⟩ Tryd.call15 rfl ?_)
    refine ro rfl (ok_move rfl rfl rfl rfl ?_)
    refine ro rfl (ok_extract rfl rfl rfl rfl rfl ?_)
    refine ro rfl (ok_extract rfl rfl rfl rfl rfl ?_)
    refine ro rfl (ok_assign rfl rfl rfl rfl ?_)
    refine ro rfl (ok_assign rfl rfl rfl rfl ?_)
    refine rn ?_
    refine awp_seq (awp_reg ?_)
    refine ro rfl (ok_move rfl rfl rfl rfl ?_)
    obtain ⟨r31, e32, h0⟩ := bd_cut h0
    refine ro rfl (ok_callP (address_Static_ok _ r29.1 _ e32) rfl rfl rfl rfl ⟨sr, trivial⟩ Tryd.call15 rfl ?_)
    refine ro rfl (ok_move rfl rfl rfl rfl ?_)
    refine ro rfl (ok_extract rfl rfl rfl rfl rfl ?_)
    refine ro rfl (ok_extract rfl rfl rfl rfl rfl ?_)
    refine ro rfl (ok_assign rfl rfl rfl rfl ?_)
    refine ro rfl (ok_assign rfl rfl rfl rfl ?_)
    refine rn ?_
    refine awp_seq ?_
    obtain ⟨o53, h1, h0⟩ := bd_cut h0
    refine awp_joinN ⟨[(2, .p (eB o53))], []⟩ ?_ ?_
    ·intro s' hle
     (repeat (first | refine uw ?_ | refine uo rfl ?_))
     refine awp_ghost hle ?_
     refine awp_ret ?_
     (repeat (first | refine uw ?_ | refine uo rfl ?_))
     have e0 := oi h0
     subst e0
     refine reta_mk rfl ?_
     exact sr
    ·skip
     refine awp_reg ?_
     refine ro rfl (ok_move rfl rfl rfl rfl ?_)
     refine ro rfl (ok_cmp rfl rfl rfl rfl rfl rfl ?_)
     refine ro rfl (ok_move rfl rfl rfl rfl ?_)
     refine gd_D rfl rfl rfl (fun c33 => ?_) (fun c33 => ?_)
     ·replace h1 := if_t c33 h1
      refine gd_tt rfl rfl rfl (dt c33) (ok_loadPA rfl rfl rfl rfl rfl rfl rfl rfl rfl ?_)
      refine gd_tt rfl rfl rfl (dt c33) (ok_loadPA rfl rfl rfl rfl rfl rfl rfl rfl rfl ?_)
      obtain ⟨r34, e35, h1⟩ := bd_cut h1
      refine gd_tt rfl rfl rfl (dt c33) (ok_callP (law06_Same_ok _ r27.1 a_0 _ e35) rfl rfl rfl rfl ⟨sr, sr, trivial⟩ Tryd.call11 rfl ?_)
      refine ro rfl (ok_pick_true rfl rfl rfl rfl (dt c33) rfl ?_)
      refine ro rfl (ok_move rfl rfl rfl rfl ?_)
      refine gd_B rfl rfl rfl (fun c36 => ?_) (fun c36 => ?_)
      ·replace h1 := if_t c36 h1
       refine gd_tt rfl rfl rfl (c36) (ok_move rfl rfl rfl rfl ?_)
       refine gd_tt rfl rfl rfl (c36) (ok_cmp rfl rfl rfl rfl rfl rfl ?_)
       refine ro rfl (ok_pick_true rfl rfl rfl rfl (c36) rfl ?_)
       refine ro rfl (ok_move rfl rfl rfl rfl ?_)
       refine gd_D rfl rfl rfl (fun c37 => ?_) (fun c37 => ?_)
       ·replace h1 := if_t c37 h1
        refine gd_tt rfl rfl rfl (dt c37) (ok_move rfl rfl rfl rfl ?_)
        refine gd_tt rfl rfl rfl (dt c37) (ok_loadPA rfl rfl rfl rfl rfl rfl rfl rfl rfl ?_)
        obtain ⟨r38, e39, h1⟩ := bd_cut h1
        refine gd_tt rfl rfl rfl (dt c37) (ok_callP (address_Format_ok _ (TAddress.mk o51 a_0.fData a_0.fType a_0.fName (TKey.mk 0 0 ([] : Bytes))) _ e39) rfl rfl rfl rfl ⟨sub_aggs ⟨AV.sub_vec _ _ _ _, sr, sr, sr, sr, sr, sr, trivial⟩, trivial⟩ Tryd.call12 rfl ?_)
        refine gd_tt rfl rfl rfl (dt c37) (ok_cmpS rfl rfl rfl rfl rfl rfl ?_)
        refine ro rfl (ok_pick_true rfl rfl rfl rfl (dt c37) rfl ?_)
        refine ro rfl (ok_move rfl rfl rfl rfl ?_)
        refine gd_D rfl rfl rfl (fun c40 => ?_) (fun c40 => ?_)
        ·replace h1 := if_t c40 h1
         refine gd_tt rfl rfl rfl (dt c40) (ok_move rfl rfl rfl rfl ?_)
         refine gd_tt rfl rfl rfl (dt c40) (ok_cmp rfl rfl rfl rfl rfl rfl ?_)
         refine ro rfl (ok_pick_true rfl rfl rfl rfl (dt c40) rfl ?_)
         refine ro rfl (ok_move rfl rfl rfl rfl ?_)
         refine gd_D rfl rfl rfl (fun c41 => ?_) (fun c41 => ?_)
         ·replace h1 := if_t c41 h1
          refine gd_tt rfl rfl rfl (dt c41) (ok_move rfl rfl rfl rfl ?_)
          refine gd_tt rfl rfl rfl (dt c41) (ok_move rfl rfl rfl rfl ?_)
          refine gd_tt rfl rfl rfl (dt c41) (ok_cmpS rfl rfl rfl rfl rfl rfl ?_)
          refine ro rfl (ok_pick_true rfl rfl rfl rfl (dt c41) rfl ?_)
          refine ro rfl (ok_move rfl rfl rfl rfl ?_)
          refine gd_D rfl rfl rfl (fun c42 => ?_) (fun c42 => ?_)
          ·replace h1 := if_t c42 h1
           obtain ⟨r43, e44, h1⟩ := bd_cut h1
           refine gd_tt rfl rfl rfl (dt c42) (ok_callP (law06_awake_ok _  _ e44) rfl rfl rfl rfl trivial Tryd.call9 rfl ?_)
           refine ro rfl (ok_pick_true rfl rfl rfl rfl (dt c42) rfl ?_)
           refine ro rfl (ok_assign rfl rfl rfl rfl ?_)
           refine rn ?_
           (repeat (first | refine uw ?_ | refine uo rfl ?_))
           have e1 := oi h1
           subst e1
           exact ghost_le (le_mk ⟨er rfl, trivial⟩ trivial)
          ·replace h1 := if_f c42 h1
           refine gd_tf rfl rfl rfl (df c42) rfl rfl ?_
           refine ro rfl (ok_pick_false rfl rfl rfl rfl (df c42) rfl ?_)
           refine ro rfl (ok_assign rfl rfl rfl rfl ?_)
           refine rn ?_
           (repeat (first | refine uw ?_ | refine uo rfl ?_))
           have e1 := oi h1
           subst e1
           exact ghost_le (le_mk ⟨er rfl, trivial⟩ trivial)
         ·replace h1 := if_f c41 h1
          refine gd_tf rfl rfl rfl (df c41) rfl rfl ?_
          refine gd_tf rfl rfl rfl (df c41) rfl rfl ?_
          refine gd_tf rfl rfl rfl (df c41) rfl rfl ?_
          refine ro rfl (ok_pick_false rfl rfl rfl rfl (df c41) rfl ?_)
          refine ro rfl (ok_move rfl rfl rfl rfl ?_)
          refine gd_tf rfl rfl rfl (rfl) rfl rfl ?_
          refine ro rfl (ok_pick_false rfl rfl rfl rfl (rfl) rfl ?_)
          refine ro rfl (ok_assign rfl rfl rfl rfl ?_)
          refine rn ?_
          (repeat (first | refine uw ?_ | refine uo rfl ?_))
          have e1 := oi h1
          subst e1
          exact ghost_le (le_mk ⟨er rfl, trivial⟩ trivial)
        ·replace h1 := if_f c40 h1
         refine gd_tf rfl rfl rfl (df c40) rfl rfl ?_
         refine gd_tf rfl rfl rfl (df c40) rfl rfl ?_
         refine ro rfl (ok_pick_false rfl rfl rfl rfl (df c40) rfl ?_)
         refine ro rfl (ok_move rfl rfl rfl rfl ?_)
         refine gd_tf rfl rfl rfl (rfl) rfl rfl ?_
         refine gd_tf rfl rfl rfl (rfl) rfl rfl ?_
         refine gd_tf rfl rfl rfl (rfl) rfl rfl ?_
         refine ro rfl (ok_pick_false rfl rfl rfl rfl (rfl) rfl ?_)
         refine ro rfl (ok_move rfl rfl rfl rfl ?_)
         refine gd_tf rfl rfl rfl (rfl) rfl rfl ?_
         refine ro rfl (ok_pick_false rfl rfl rfl rfl (rfl) rfl ?_)
         refine ro rfl (ok_assign rfl rfl rfl rfl ?_)
         refine rn ?_
         (repeat (first | refine uw ?_ | refine uo rfl ?_))
         have e1 := oi h1
         subst e1
         exact ghost_le (le_mk ⟨er rfl, trivial⟩ trivial)
       ·replace h1 := if_f c37 h1
        refine gd_tf rfl rfl rfl (df c37) rfl rfl ?_
        refine gd_tf rfl rfl rfl (df c37) rfl rfl ?_
        refine gd_tf rfl rfl rfl (df c37) rfl rfl ?_
        refine gd_tf rfl rfl rfl (df c37) rfl rfl ?_
        refine ro rfl (ok_pick_false rfl rfl rfl rfl (df c37) rfl ?_)
        refine ro rfl (ok_move rfl rfl rfl rfl ?_)
        refine gd_tf rfl rfl rfl (rfl) rfl rfl ?_
        refine gd_tf rfl rfl rfl (rfl) rfl rfl ?_
        refine ro rfl (ok_pick_false rfl rfl rfl rfl (rfl) rfl ?_)
        refine ro rfl (ok_move rfl rfl rfl rfl ?_)
        refine gd_tf rfl rfl rfl (rfl) rfl rfl ?_
        refine gd_tf rfl rfl rfl (rfl) rfl rfl ?_
        refine gd_tf rfl rfl rfl (rfl) rfl rfl ?_
        refine ro rfl (ok_pick_false rfl rfl rfl rfl (rfl) rfl ?_)
        refine ro rfl (ok_move rfl rfl rfl rfl ?_)
        refine gd_tf rfl rfl rfl (rfl) rfl rfl ?_
        refine ro rfl (ok_pick_false rfl rfl rfl rfl (rfl) rfl ?_)
        refine ro rfl (ok_assign rfl rfl rfl rfl ?_)
        refine rn ?_
        (repeat (first | refine uw ?_ | refine uo rfl ?_))
        have e1 := oi h1
        subst e1
        exact ghost_le (le_mk ⟨er rfl, trivial⟩ trivial)
      ·replace h1 := if_bf c36 h1
       refine gd_tf rfl rfl rfl (c36) rfl rfl ?_
       refine gd_tf rfl rfl rfl (c36) rfl rfl ?_
       refine ro rfl (ok_pick_false rfl rfl rfl rfl (c36) rfl ?_)
       refine ro rfl (ok_move rfl rfl rfl rfl ?_)
       refine gd_tf rfl rfl rfl (rfl) rfl rfl ?_
       refine gd_tf rfl rfl rfl (rfl) rfl rfl ?_
       refine gd_tf rfl rfl rfl (rfl) rfl rfl ?_
       refine gd_tf rfl rfl rfl (rfl) rfl rfl ?_
       refine ro rfl (ok_pick_false rfl rfl rfl rfl (rfl) rfl ?_)
       refine ro rfl (ok_move rfl rfl rfl rfl ?_)
       refine gd_tf rfl rfl rfl (rfl) rfl rfl ?_
       refine gd_tf rfl rfl rfl (rfl) rfl rfl ?_
       refine ro rfl (ok_pick_false rfl rfl rfl rfl (rfl) rfl ?_)
       refine ro rfl (ok_move rfl rfl rfl rfl ?_)
       refine gd_tf rfl rfl rfl (rfl) rfl rfl ?_
       refine gd_tf rfl rfl rfl (rfl) rfl rfl ?_
       refine gd_tf rfl rfl rfl (rfl) rfl rfl ?_
       refine ro rfl (ok_pick_false rfl rfl rfl rfl (rfl) rfl ?_)
       refine ro rfl (ok_move rfl rfl rfl rfl ?_)
       refine gd_tf rfl rfl rfl (rfl) rfl rfl ?_
       refine ro rfl (ok_pick_false rfl rfl rfl rfl (rfl) rfl ?_)
       refine ro rfl (ok_assign rfl rfl rfl rfl ?_)
       refine rn ?_
       (repeat (first | refine uw ?_ | refine uo rfl ?_))
       have e1 := oi h1
       subst e1
       exact ghost_le (le_mk ⟨er rfl, trivial⟩ trivial)
     ·replace h1 := if_f c33 h1
      refine gd_tf rfl rfl rfl (df c33) rfl rfl ?_
      refine gd_tf rfl rfl rfl (df c33) rfl rfl ?_
      refine gd_tf rfl rfl rfl (df c33) rfl rfl ?_
      refine ro rfl (ok_pick_false rfl rfl rfl rfl (df c33) rfl ?_)
      refine ro rfl (ok_move rfl rfl rfl rfl ?_)
      refine gd_tf rfl rfl rfl (rfl) rfl rfl ?_
      refine gd_tf rfl rfl rfl (rfl) rfl rfl ?_
      refine ro rfl (ok_pick_false rfl rfl rfl rfl (rfl) rfl ?_)
      refine ro rfl (ok_move rfl rfl rfl rfl ?_)
      refine gd_tf rfl rfl rfl (rfl) rfl rfl ?_
      refine gd_tf rfl rfl rfl (rfl) rfl rfl ?_
      refine gd_tf rfl rfl rfl (rfl) rfl rfl ?_
      refine gd_tf rfl rfl rfl (rfl) rfl rfl ?_
      refine ro rfl (ok_pick_false rfl rfl rfl rfl (rfl) rfl ?_)
      refine ro rfl (ok_move rfl rfl rfl rfl ?_)
      refine gd_tf rfl rfl rfl (rfl) rfl rfl ?_
      refine gd_tf rfl rfl rfl (rfl) rfl rfl ?_
      refine ro rfl (ok_pick_false rfl rfl rfl rfl (rfl) rfl ?_)
      refine ro rfl (ok_move rfl rfl rfl rfl ?_)
      refine gd_tf rfl rfl rfl (rfl) rfl rfl ?_
      refine gd_tf rfl rfl rfl (rfl) rfl rfl ?_
      refine gd_tf rfl rfl rfl (rfl) rfl rfl ?_
      refine ro rfl (ok_pick_false rfl rfl rfl rfl (rfl) rfl ?_)
      refine ro rfl (ok_move rfl rfl rfl rfl ?_)
      refine gd_tf rfl rfl rfl (rfl) rfl rfl ?_
      refine ro rfl (ok_pick_false rfl rfl rfl rfl (rfl) rfl ?_)
      refine ro rfl (ok_assign rfl rfl rfl rfl ?_)
      refine rn ?_
      (repeat (first | refine uw ?_ | refine uo rfl ?_))
      have e1 := oi h1
      subst e1
      exact ghost_le (le_mk ⟨er rfl, trivial⟩ trivial)
   ·skip
    refine awp_loopG (fun (q55 : Int × (List TModuleStep)) => ⟨[(1, .ptr 1 0), (3, .ptr 3 0), (4, .p (eI q55.1))], [(1, [.p (eL eTModuleStep a_0.fModule), .p (eB a_0.fData), .p (eS a_0.fType), .p (eS a_0.fName), .p (eI a_0.fKey.fKind), .p (eI a_0.fKey.fNum), .p (eS a_0.fKey.fStr)]), (3, [.vec 45 4 0 (q55.2.map eTModuleStep), .p (eB a_0.fData), .p (eS a_0.fType), .p (eS a_0.fName), .p (eI 0), .p (eI 0), .p (eS ([] : Bytes))])]⟩) (fun m (q55 : Int × (List TModuleStep)) => law06_AddressBack_l1 a_0 m q55.1 q55.2) (fun _ => rfl) (0, []) h1 (ghost_le (le_mk ⟨er rfl, er rfl, er rfl, trivial⟩ ⟨⟨_, rfl, ⟨sr, sr, sr, sr, sr, sr, sr, trivial⟩⟩, ⟨_, rfl, ⟨AV.sub_nilvec _ _ _, sr, sr, sr, sr, sr, sr, trivial⟩⟩, trivial⟩)) ?_
    rintro m ⟨i16, f17⟩ h1
    replace h1 : law06_AddressBack_l1 a_0 (m + 1) i16 f17 = some o51 := h1
    rw [law06_AddressBack_l1] at h1
    refine awp_seq (awp_seq (awp_reg ?_))
    refine ro rfl (ok_move rfl rfl rfl rfl ?_)
    refine ro rfl (ok_fieldAddrP rfl rfl rfl rfl rfl rfl rfl rfl rfl ?_)
    refine ro rfl (ok_loadP1 rfl rfl rfl rfl rfl rfl rfl rfl ?_)
    refine ro rfl (op_lenL (f := eTModuleStep) (l := a_0.fModule) rfl rfl rfl rfl rfl rfl rfl ?_)
    refine ro rfl (ok_cmp rfl rfl rfl rfl rfl rfl ?_)
    refine rn ?_
    refine wp_ifD rfl (fun c18 => ?_) (fun c18 => ?_)
    ·replace h1 := if_t c18 h1
     refine awp_skip (awp_seq (awp_block ?_))
     obtain ⟨hk19, h1⟩ := ck_cut h1
     obtain ⟨hk20, h1⟩ := ck_cut h1
     refine awp_ghost (ghost_le (t := ⟨[(1, .ptr 1 0), (3, .ptr 3 0), (4, .p (eI i16))], [(1, [.p (eL eTModuleStep a_0.fModule), .p (eB a_0.fData), .p (eS a_0.fType), .p (eS a_0.fName), .p (eI a_0.fKey.fKind), .p (eI a_0.fKey.fNum), .p (eS a_0.fKey.fStr)]), (3, [.vec 45 4 0 (f17.map eTModuleStep), .p (eB a_0.fData), .p (eS a_0.fType), .p (eS a_0.fName), .p (eI 0), .p (eI 0), .p (eS ([] : Bytes))])]⟩) (le_mk ⟨er rfl, er rfl, er rfl, trivial⟩ ⟨⟨_, rfl, ⟨sr, sr, sr, sr, sr, sr, sr, trivial⟩⟩, ⟨_, rfl, ⟨sr, sr, sr, sr, sr, sr, sr, trivial⟩⟩, trivial⟩)) ?_
     refine awp_drawS ⟨2, [10, 12], (by3 (some fun i => Nat.beq i 45 || Nat.beq i 45) none none), (fun _ => [(1, .ptr 1 0), (3, .ptr 3 0), (4, .p (eI i16))]), (by3 ([(1, [.p (eL eTModuleStep a_0.fModule), .p (eB a_0.fData), .p (eS a_0.fType), .p (eS a_0.fName), .p (eI a_0.fKey.fKind), .p (eI a_0.fKey.fNum), .p (eS a_0.fKey.fStr)]), (3, [.vec 45 4 0 (f17.map eTModuleStep), .p (eB a_0.fData), .p (eS a_0.fType), .p (eS a_0.fName), .p (eI 0), .p (eI 0), .p (eS ([] : Bytes))])]) ([(1, [.p (eL eTModuleStep a_0.fModule), .p (eB a_0.fData), .p (eS a_0.fType), .p (eS a_0.fName), .p (eI a_0.fKey.fKind), .p (eI a_0.fKey.fNum), .p (eS a_0.fKey.fStr)]), (3, [.p (eL eTModuleStep f17), .p (eB a_0.fData), .p (eS a_0.fType), .p (eS a_0.fName), .p (eI 0), .p (eI 0), .p (eS ([] : Bytes))])]) ([(3, [.vec 45 4 0 ((f17 ++ ([(TModuleStep.mk ((lat a_0.fModule i16).fName) (TKey.mk 0 0 ([] : Bytes)))])).map eTModuleStep), .p (eB a_0.fData), .p (eS a_0.fType), .p (eS a_0.fName), .p (eI 0), .p (eI 0), .p (eS ([] : Bytes))]), (1, [.p (eL eTModuleStep a_0.fModule), .p (eB a_0.fData), .p (eS a_0.fType), .p (eS a_0.fName), .p (eI a_0.fKey.fKind), .p (eI a_0.fKey.fNum), .p (eS a_0.fKey.fStr)]), (3, [.p (eL eTModuleStep f17), .p (eB a_0.fData), .p (eS a_0.fType), .p (eS a_0.fName), .p (eI 0), .p (eI 0), .p (eS ([] : Bytes))])]))⟩ rfl rfl rfl ⟨rfl, rfl, rfl, trivial⟩ (lt2 ⟨rfl, rfl, rfl, trivial⟩ ⟨rfl, rfl, rfl, trivial⟩) rfl rfl rfl rfl ?_
     refine ds_pure (fun _ => .ptr 3 0) rfl rfl rfl (all3 rfl rfl (fun _ => rfl)) (lt2 rfl rfl) (stg_no rfl (stg_yes [(3, _)] ⟨.inl rfl, trivial⟩ (fun sl hsl K hK => one_op rfl (ok_fieldAddrP rfl rfl rfl rfl rfl rfl rfl rfl (hsl _ _ rfl) hK)) (stg_yes [(3, _)] ⟨.inl rfl, trivial⟩ (fun sl hsl K hK => one_op rfl (ok_fieldAddrP rfl rfl rfl rfl rfl rfl rfl rfl (hsl _ _ rfl) hK)) stg_nil))) ?_
     refine ds_pure (by3 (.vec 45 4 0 (f17.map eTModuleStep)) (.p (eL eTModuleStep f17)) (.p (eL eTModuleStep f17))) rfl rfl rfl (all3 rfl rfl (fun _ => rfl)) (lt2 rfl rfl) (stg_no rfl (stg_no rfl (stg_yes [(35, _)] ⟨.inr ⟨0, _, rfl, rfl, rfl⟩, trivial⟩ (fun sl hsl K hK => one_op rfl (ok_loadP1 rfl rfl rfl rfl rfl (hsl _ _ rfl) rfl rfl hK)) stg_nil))) ?_
     refine ds_pure (fun _ => .ptr 1 0) rfl rfl rfl (all3 rfl rfl (fun _ => rfl)) (lt2 rfl rfl) (stg_no rfl (stg_yes [(1, _)] ⟨.inl rfl, trivial⟩ (fun sl hsl K hK => one_op rfl (ok_fieldAddrP rfl rfl rfl rfl rfl rfl rfl rfl (hsl _ _ rfl) hK)) (stg_yes [(1, _)] ⟨.inl rfl, trivial⟩ (fun sl hsl K hK => one_op rfl (ok_fieldAddrP rfl rfl rfl rfl rfl rfl rfl rfl (hsl _ _ rfl) hK)) stg_nil))) ?_
     refine ds_pure (fun _ => .p (eL eTModuleStep a_0.fModule)) rfl rfl rfl (all3 rfl rfl (fun _ => rfl)) (lt2 rfl rfl) (stg_no rfl (stg_yes [(37, _)] ⟨.inr ⟨2, _, rfl, rfl, rfl⟩, trivial⟩ (fun sl hsl K hK => one_op rfl (ok_loadP1 rfl rfl rfl rfl rfl (hsl _ _ rfl) rfl rfl hK)) (stg_yes [(37, _)] ⟨.inr ⟨2, _, rfl, rfl, rfl⟩, trivial⟩ (fun sl hsl K hK => one_op rfl (ok_loadP1 rfl rfl rfl rfl rfl (hsl _ _ rfl) rfl rfl hK)) stg_nil))) ?_
     refine ds_pure (fun _ => .p (eI i16)) rfl rfl rfl (all3 rfl rfl (fun _ => rfl)) (lt2 rfl rfl) (stg_no rfl (stg_yes [(4, _)] ⟨.inl rfl, trivial⟩ (fun sl hsl K hK => one_op rfl (ok_move rfl rfl rfl (hsl _ _ rfl) hK)) (stg_yes [(4, _)] ⟨.inl rfl, trivial⟩ (fun sl hsl K hK => one_op rfl (ok_move rfl rfl rfl (hsl _ _ rfl) hK)) stg_nil))) ?_
     refine ds_pure (fun _ => .rptr (TModuleStep.cs (lat a_0.fModule i16))) rfl rfl rfl (all3 rfl rfl (fun _ => rfl)) (lt2 rfl rfl) (stg_no rfl (stg_yes [(38, _), (39, _)] ⟨.inr ⟨3, _, rfl, rfl, rfl⟩, .inr ⟨4, _, rfl, rfl, rfl⟩, trivial⟩ (fun sl hsl K hK => one_op rfl (op_at (f := eTModuleStep) (l := a_0.fModule) TModuleStep.cs rfl rfl rfl rfl rfl rfl (hsl _ _ rfl) rfl (hsl _ _ rfl) hk19 TModuleStep.cells_eq (fun _ => rfl) hK)) (stg_yes [(38, _), (39, _)] ⟨.inr ⟨3, _, rfl, rfl, rfl⟩, .inr ⟨4, _, rfl, rfl, rfl⟩, trivial⟩ (fun sl hsl K hK => one_op rfl (op_at (f := eTModuleStep) (l := a_0.fModule) TModuleStep.cs rfl rfl rfl rfl rfl rfl (hsl _ _ rfl) rfl (hsl _ _ rfl) hk19 TModuleStep.cells_eq (fun _ => rfl) hK)) stg_nil))) ?_
     refine ds_pure (fun _ => .rptr (List.drop 0 (TModuleStep.cs (lat a_0.fModule i16)))) rfl rfl rfl (all3 rfl rfl (fun _ => rfl)) (lt2 rfl rfl) (stg_no rfl (stg_yes [(40, _)] ⟨.inr ⟨5, _, rfl, rfl, rfl⟩, trivial⟩ (fun sl hsl K hK => one_op rfl (ok_fieldAddrR rfl rfl rfl rfl rfl rfl rfl rfl (hsl _ _ rfl) hK)) (stg_yes [(40, _)] ⟨.inr ⟨5, _, rfl, rfl, rfl⟩, trivial⟩ (fun sl hsl K hK => one_op rfl (ok_fieldAddrR rfl rfl rfl rfl rfl rfl rfl rfl (hsl _ _ rfl) hK)) stg_nil))) ?_
     refine ds_pure (fun _ => .p (eS ((lat a_0.fModule i16).fName))) rfl rfl rfl (all3 rfl rfl (fun _ => rfl)) (lt2 rfl rfl) (stg_no rfl (stg_yes [(41, _)] ⟨.inr ⟨6, _, rfl, rfl, rfl⟩, trivial⟩ (fun sl hsl K hK => one_op rfl (ok_loadR1 rfl rfl rfl rfl rfl (hsl _ _ rfl) rfl hK)) (stg_yes [(41, _)] ⟨.inr ⟨6, _, rfl, rfl, rfl⟩, trivial⟩ (fun sl hsl K hK => one_op rfl (ok_loadR1 rfl rfl rfl rfl rfl (hsl _ _ rfl) rfl hK)) stg_nil))) ?_
     refine ds_pure (fun _ => .p (.agg [eS ((lat a_0.fModule i16).fName), eI 0, eI 0, eS ([] : Bytes)])) rfl rfl rfl (all3 rfl rfl (fun _ => rfl)) (lt2 rfl rfl) (stg_no rfl (stg_yes [(42, _)] ⟨.inr ⟨7, _, rfl, rfl, rfl⟩, trivial⟩ (fun sl hsl K hK => one_op rfl (ok_build rfl rfl rfl rfl rfl rfl (parts_cons (hsl _ _ rfl) parts_nil) rfl rfl hK)) (stg_yes [(42, _)] ⟨.inr ⟨7, _, rfl, rfl, rfl⟩, trivial⟩ (fun sl hsl K hK => one_op rfl (ok_build rfl rfl rfl rfl rfl rfl (parts_cons (hsl _ _ rfl) parts_nil) rfl rfl hK)) stg_nil))) ?_
     refine ds_pure (fun _ => .p (eL eTModuleStep ([(TModuleStep.mk ((lat a_0.fModule i16).fName) (TKey.mk 0 0 ([] : Bytes)))]))) rfl rfl rfl (all3 rfl rfl (fun _ => rfl)) (lt2 rfl rfl) (stg_no rfl (stg_no rfl (stg_yes [(43, _)] ⟨.inr ⟨8, _, rfl, rfl, rfl⟩, trivial⟩ (fun sl hsl K hK => one_op rfl (op_bslice eTModuleStep [(TModuleStep.mk ((lat a_0.fModule i16).fName) (TKey.mk 0 0 ([] : Bytes)))] rfl rfl rfl rfl rfl rfl (elems_cons (hsl _ _ rfl) rfl elems_nil) rfl rfl rfl rfl rfl rfl (by first | rfl | (simp only [List.map_cons, List.map_nil, TModuleStep.agg_eq]; done) | (simp only [List.map_cons, List.map_nil, TModuleStep.agg_eq]; rfl)) hK)) stg_nil))) ?_
     refine ds_imp (fun _ => .vec 45 4 0 ((f17 ++ ([(TModuleStep.mk ((lat a_0.fModule i16).fName) (TKey.mk 0 0 ([] : Bytes)))])).map eTModuleStep)) [(36, _), (44, _)] rfl ⟨.inr ⟨1, _, rfl, rfl, rfl⟩, .inr ⟨9, _, rfl, rfl, rfl⟩, trivial⟩ rfl rfl (fun _ => rfl) (lt2 (fun h => absurd h (by decide)) (fun _ => rfl)) (fun sl hsl K hK => one_op rfl (op_appV eTModuleStep f17 ([(TModuleStep.mk ((lat a_0.fModule i16).fName) (TKey.mk 0 0 ([] : Bytes)))]) rfl rfl rfl rfl rfl rfl rfl rfl (hsl _ _ rfl) rfl rfl (hsl _ _ rfl) rfl (fun x => congrArg List.length (TModuleStep.cells_eq x)) rfl rfl rfl rfl hk20 hK)) ?_
     refine ds_pure (fun _ => .ptr 3 0) rfl rfl rfl (all3 rfl rfl (fun _ => rfl)) (lt2 rfl rfl) (stg_no rfl (stg_yes [(3, _)] ⟨.inl rfl, trivial⟩ (fun sl hsl K hK => one_op rfl (ok_fieldAddrP rfl rfl rfl rfl rfl rfl rfl rfl (hsl _ _ rfl) hK)) (stg_no rfl stg_nil))) ?_
     refine ds_store [(45, _), (46, _)] rfl ⟨.inr ⟨10, _, rfl, rfl, rfl⟩, .inr ⟨11, _, rfl, rfl, rfl⟩, trivial⟩ rfl (fun sl hsl K hK => one_op rfl (ok_store rfl rfl rfl (hsl _ _ rfl) (hsl _ _ rfl) rfl rfl rfl (Nat.le_of_ble_eq_true rfl) hK)) ?_
     refine ds_nil ?_
     (repeat (first | refine uw ?_ | refine uo rfl ?_))
     refine awp_reg ?_
     refine ro rfl (ok_move rfl rfl rfl rfl ?_)
     obtain ⟨hk21, h1⟩ := ck_cut h1
     refine ro rfl (ok_ar rfl rfl rfl rfl rfl rfl hk21 ?_)
     refine ro rfl (ok_assign rfl rfl rfl rfl ?_)
     refine rn ?_
     (repeat (first | refine uw ?_ | refine uo rfl ?_))
     exact ⟨(i16 + 1, f17 ++ ([(TModuleStep.mk ((lat a_0.fModule i16).fName) (TKey.mk 0 0 ([] : Bytes)))])), h1, ghost_le (le_mk ⟨er rfl, er rfl, er rfl, trivial⟩ ⟨⟨_, rfl, ⟨sr, sr, sr, sr, sr, sr, sr, trivial⟩⟩, ⟨_, rfl, ⟨sr, sr, sr, sr, sr, sr, sr, trivial⟩⟩, trivial⟩)⟩
    ·replace h1 := if_f c18 h1
     refine awp_exit ?_
     (repeat (first | refine uw ?_ | refine uo rfl ?_))
     have e1 := oi h1
     subst e1
     exact ghost_le (le_mk ⟨er rfl, er rfl, trivial⟩ ⟨⟨_, rfl, ⟨sr, sr, sr, sr, sr, sr, sr, trivial⟩⟩, ⟨_, rfl, ⟨sr, sr, sr, sr, sr, sr, sr, trivial⟩⟩, trivial⟩)
 ·skip
  refine awp_reg ?_
  refine ro rfl (ok_loadPA rfl rfl rfl rfl rfl rfl rfl rfl rfl ?_)
  obtain ⟨r1, e2, h1⟩ := bd_cut h1
  refine ro rfl (ok_callP (law06_few_ok _ a_0 _ e2) rfl rfl rfl rfl ⟨sr, trivial⟩ Tryd.call14 rfl ?_)
  refine ro rfl (ok_not rfl rfl rfl rfl ?_)
  refine ro rfl (ok_move rfl rfl rfl rfl ?_)
  refine gd_B rfl rfl rfl (fun c3 => ?_) (fun c3 => ?_)
  ·replace h1 := if_t c3 h1
   refine gd_ft rfl rfl rfl (c3) rfl rfl ?_
   refine gd_ft rfl rfl rfl (c3) rfl rfl ?_
   refine gd_ft rfl rfl rfl (c3) rfl rfl ?_
   refine ro rfl (ok_pick_true rfl rfl rfl rfl (c3) rfl ?_)
   refine rn ?_
   (repeat (first | refine uw ?_ | refine uo rfl ?_))
   have e1 := oi h1
   subst e1
   exact ghost_le (le_mk ⟨er rfl, er rfl, trivial⟩ ⟨⟨_, rfl, ⟨sr, sr, sr, sr, sr, sr, sr, trivial⟩⟩, trivial⟩)
  ·replace h1 := if_bf c3 h1
   refine gd_ff rfl rfl rfl (c3) (ok_loadPA rfl rfl rfl rfl rfl rfl rfl rfl rfl ?_)
   obtain ⟨r4, e5, h1⟩ := bd_cut h1
   refine gd_ff rfl rfl rfl (c3) (ok_callP (address_Check_ok _ a_0 _ e5) rfl rfl rfl rfl ⟨sr, trivial⟩ Tryd.call13 rfl ?_)
   refine gd_ff rfl rfl rfl (c3) (ok_cmp rfl rfl rfl rfl rfl rfl ?_)
   refine ro rfl (ok_pick_false rfl rfl rfl rfl (c3) rfl ?_)
   refine rn ?_
   (repeat (first | refine uw ?_ | refine uo rfl ?_))
   have e1 := oi h1
   subst e1
   exact ghost_le (le_mk ⟨er rfl, er rfl, trivial⟩ ⟨⟨_, rfl, ⟨sr, sr, sr, sr, sr, sr, sr, trivial⟩⟩, trivial⟩)

end Go.Ab.R06
