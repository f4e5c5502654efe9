/- Chapter 06. -/
import Derived.Test.YtijgdpmadidpaaaDoorR06
set_option linter.unusedVariables false
set_option linter.unusedSimpArgs false
set_option linter.unnecessarySimpa false
namespace Go.Ab.R06
open Go.Proofs Go.Ab Go.Ab.RB
attribute [local irreducible] awp rwpL OpOk PCalls OCalls AV.sub

def law06_AddressTexts (n : Nat) (s_0 : Bytes) : Option Bool :=
 if 3000 < (s_0.length : Int) then
  (law06_awake n).bind fun r2 =>
  some r2
 else
  (address_Parse n s_0).bind fun r4 =>
  if r4.2 = 0 then
   (
     (address_Format n r4.1).bind fun r13 =>
     if r13 = s_0 then
      (address_Check n r4.1).bind fun r16 =>
      if r16 = 0 then
       (law06_awake n).bind fun r19 =>
       some r19
      else
       some false
     else
      some false
    : Option Bool).bind fun t21 =>
   some t21
  else
   (
     (law06_Same n r4.1 (TAddress.mk [] false ([] : Bytes) ([] : Bytes) (TKey.mk 0 0 ([] : Bytes)))).bind fun r7 =>
     if r7 = true then
      (law06_awake n).bind fun r10 =>
      some r10
     else
      some false
    : Option Bool).bind fun t12 =>
   some t12

set_option maxHeartbeats 4000000 in
theorem law06_AddressTexts_ok (n : Nat) (s_0 : Bytes) (r : Bool) (h0 : law06_AddressTexts n s_0 = some r) : PCalls Tryd.prog 4 [eS s_0] (· = .p (eB r)) := by
 unfold law06_AddressTexts at h0
 refine pbodyA good Tryd.func4 rfl rfl rfl fun w0 => ?_
 refine awp_seq (awp_reg ?_)
 refine ro rfl (ok_assign rfl rfl rfl rfl ?_)
 refine rn ?_
 refine awp_seq (awp_seq (awp_reg ?_))
 refine ro rfl (ok_move rfl rfl rfl rfl ?_)
 refine ro rfl (ok_lenS rfl rfl rfl rfl rfl rfl ?_)
 refine ro rfl (ok_cmp rfl rfl rfl rfl rfl rfl ?_)
 refine rn ?_
 refine wp_ifD rfl (fun c1 => ?_) (fun c1 => ?_)
 ·replace h0 := if_t c1 h0
  refine awp_seq (awp_reg ?_)
  obtain ⟨r2, e3, h0⟩ := bd_cut h0
  refine ro rfl (ok_callP (law06_awake_ok _  _ e3) rfl rfl rfl rfl trivial Tryd.call9 rfl ?_)
  refine ro rfl (ok_assign rfl rfl rfl rfl ?_)
  refine rn ?_
  refine awp_ret ?_
  (repeat (first | refine uw ?_ | refine uo rfl ?_))
  have e0 := oi h0
  subst e0
  refine reta_mk rfl ?_
  exact sr
 ·replace h0 := if_f c1 h0
  refine awp_skip (awp_seq (awp_reg ?_))
  refine ro rfl (ok_move rfl rfl rfl rfl ?_)
  obtain ⟨r4, e5, h0⟩ := bd_cut h0
  refine ro rfl (ok_callP (address_Parse_ok _ s_0 _ e5) rfl rfl rfl rfl ⟨sr, trivial⟩ Tryd.call10 rfl ?_)
  refine ro rfl (ok_move rfl rfl rfl rfl ?_)
  refine ro rfl (ok_extract rfl rfl rfl rfl rfl ?_)
  refine ro rfl (ok_extract rfl rfl rfl rfl rfl ?_)
  refine ro rfl (ok_alloc rfl rfl rfl rfl rfl ?_)
  refine ro rfl (ok_store rfl rfl rfl rfl rfl rfl rfl rfl (Nat.le_of_ble_eq_true rfl) ?_)
  refine ro rfl (ok_assign rfl rfl rfl rfl ?_)
  refine rn ?_
  refine awp_seq (awp_seq (awp_reg ?_))
  refine ro rfl (ok_move rfl rfl rfl rfl ?_)
  refine ro rfl (ok_cmp rfl rfl rfl rfl rfl rfl ?_)
  refine rn ?_
  refine wp_ifN rfl (fun c6 => ?_) (fun c6 => ?_)
  ·replace h0 := if_f c6 h0
   refine awp_seq ?_
   obtain ⟨o26, h1, h0⟩ := bd_cut h0
   refine awp_joinN ⟨[(2, .p (eB o26))], []⟩ ?_ ?_
   ·intro s' hle
    (repeat (first | refine uw ?_ | refine uo rfl ?_))
    refine awp_ghost hle ?_
    refine awp_ret ?_
    (repeat (first | refine uw ?_ | refine uo rfl ?_))
    have e0 := oi h0
    subst e0
    refine reta_mk rfl ?_
    exact sr
   ·skip
    refine awp_reg ?_
    refine ro rfl (ok_loadPA rfl rfl rfl rfl rfl rfl rfl rfl rfl ?_)
    refine ro rfl (ok_build rfl rfl rfl rfl rfl rfl rfl rfl rfl ?_)
    obtain ⟨r7, e8, h1⟩ := bd_cut h1
    refine ro rfl (ok_callP (law06_Same_ok _ r4.1 (TAddress.mk [] false ([] : Bytes) ([] : Bytes) (TKey.mk 0 0 ([] : Bytes))) _ e8) rfl rfl rfl rfl ⟨sr, sub_cells ⟨.inr ⟨rfl, rfl⟩, .inl rfl, .inl rfl, .inl rfl, .inl rfl, .inl rfl, .inl rfl, trivial⟩, trivial⟩ Tryd.call11 rfl ?_)
    refine ro rfl (ok_move rfl rfl rfl rfl ?_)
    refine gd_B rfl rfl rfl (fun c9 => ?_) (fun c9 => ?_)
    ·replace h1 := if_t c9 h1
     obtain ⟨r10, e11, h1⟩ := bd_cut h1
     refine gd_tt rfl rfl rfl (c9) (ok_callP (law06_awake_ok _  _ e11) rfl rfl rfl rfl trivial Tryd.call9 rfl ?_)
     refine ro rfl (ok_pick_true rfl rfl rfl rfl (c9) rfl ?_)
     refine ro rfl (ok_assign rfl rfl rfl rfl ?_)
     refine rn ?_
     (repeat (first | refine uw ?_ | refine uo rfl ?_))
     have e1 := oi h1
     subst e1
     exact ghost_le (le_mk ⟨er rfl, trivial⟩ trivial)
    ·replace h1 := if_bf c9 h1
     refine gd_tf rfl rfl rfl (c9) rfl rfl ?_
     refine ro rfl (ok_pick_false rfl rfl rfl rfl (c9) rfl ?_)
     refine ro rfl (ok_assign rfl rfl rfl rfl ?_)
     refine rn ?_
     (repeat (first | refine uw ?_ | refine uo rfl ?_))
     have e1 := oi h1
     subst e1
     exact ghost_le (le_mk ⟨er rfl, trivial⟩ trivial)
  ·replace h0 := if_t c6 h0
   refine awp_skip (awp_seq ?_)
   obtain ⟨o24, h1, h0⟩ := bd_cut h0
   refine awp_joinN ⟨[(2, .p (eB o24))], []⟩ ?_ ?_
   ·intro s' hle
    (repeat (first | refine uw ?_ | refine uo rfl ?_))
    refine awp_ghost hle ?_
    refine awp_ret ?_
    (repeat (first | refine uw ?_ | refine uo rfl ?_))
    have e0 := oi h0
    subst e0
    refine reta_mk rfl ?_
    exact sr
   ·skip
    refine awp_reg ?_
    refine ro rfl (ok_loadPA rfl rfl rfl rfl rfl rfl rfl rfl rfl ?_)
    obtain ⟨r13, e14, h1⟩ := bd_cut h1
    refine ro rfl (ok_callP (address_Format_ok _ r4.1 _ e14) rfl rfl rfl rfl ⟨sr, trivial⟩ Tryd.call12 rfl ?_)
    refine ro rfl (ok_move rfl rfl rfl rfl ?_)
    refine ro rfl (ok_cmpS rfl rfl rfl rfl rfl rfl ?_)
    refine ro rfl (ok_move rfl rfl rfl rfl ?_)
    refine gd_D rfl rfl rfl (fun c15 => ?_) (fun c15 => ?_)
    ·replace h1 := if_t c15 h1
     refine gd_tt rfl rfl rfl (dt c15) (ok_loadPA rfl rfl rfl rfl rfl rfl rfl rfl rfl ?_)
     obtain ⟨r16, e17, h1⟩ := bd_cut h1
     refine gd_tt rfl rfl rfl (dt c15) (ok_callP (address_Check_ok _ r4.1 _ e17) rfl rfl rfl rfl ⟨sr, trivial⟩ Tryd.call13 rfl ?_)
     refine gd_tt rfl rfl rfl (dt c15) (ok_cmp rfl rfl rfl rfl rfl rfl ?_)
     refine ro rfl (ok_pick_true rfl rfl rfl rfl (dt c15) rfl ?_)
     refine ro rfl (ok_move rfl rfl rfl rfl ?_)
     refine gd_D rfl rfl rfl (fun c18 => ?_) (fun c18 => ?_)
     ·replace h1 := if_t c18 h1
      obtain ⟨r19, e20, h1⟩ := bd_cut h1
      refine gd_tt rfl rfl rfl (dt c18) (ok_callP (law06_awake_ok _  _ e20) rfl rfl rfl rfl trivial Tryd.call9 rfl ?_)
      refine ro rfl (ok_pick_true rfl rfl rfl rfl (dt c18) rfl ?_)
      refine ro rfl (ok_assign rfl rfl rfl rfl ?_)
      refine rn ?_
      (repeat (first | refine uw ?_ | refine uo rfl ?_))
      have e1 := oi h1
      subst e1
      exact ghost_le (le_mk ⟨er rfl, trivial⟩ trivial)
     ·replace h1 := if_f c18 h1
      refine gd_tf rfl rfl rfl (df c18) rfl rfl ?_
      refine ro rfl (ok_pick_false rfl rfl rfl rfl (df c18) rfl ?_)
      refine ro rfl (ok_assign rfl rfl rfl rfl ?_)
      refine rn ?_
      (repeat (first | refine uw ?_ | refine uo rfl ?_))
      have e1 := oi h1
      subst e1
      exact ghost_le (le_mk ⟨er rfl, trivial⟩ trivial)
    ·replace h1 := if_f c15 h1
     refine gd_tf rfl rfl rfl (df c15) rfl rfl ?_
     refine gd_tf rfl rfl rfl (df c15) rfl rfl ?_
     refine gd_tf rfl rfl rfl (df c15) rfl rfl ?_
     refine ro rfl (ok_pick_false rfl rfl rfl rfl (df c15) rfl ?_)
     refine ro rfl (ok_move rfl rfl rfl rfl ?_)
     refine gd_tf rfl rfl rfl (rfl) rfl rfl ?_
     refine ro rfl (ok_pick_false rfl rfl rfl rfl (rfl) rfl ?_)
     refine ro rfl (ok_assign rfl rfl rfl rfl ?_)
     refine rn ?_
     (repeat (first | refine uw ?_ | refine uo rfl ?_))
     have e1 := oi h1
     subst e1
     exact ghost_le (le_mk ⟨er rfl, trivial⟩ trivial)

end Go.Ab.R06
