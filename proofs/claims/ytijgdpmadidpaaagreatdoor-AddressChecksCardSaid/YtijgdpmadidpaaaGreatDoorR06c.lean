/- Chapter 06. -/
import Derived.Test.YtijgdpmadidpaaaGreatDoorR06q
set_option linter.unusedVariables false
set_option linter.unusedSimpArgs false
set_option linter.unnecessarySimpa false
namespace Go.Ab.R06
open Go.Proofs Go.Ab Go.Ab.RB
attribute [local irreducible] awp rwpL OpOk PCalls OCalls AV.sub

def law06_AddressChecks (n : Nat) (a_0 : TAddress) : Option Bool :=
 (law06_few n a_0).bind fun r1 =>
 if (!r1) = true then
  (law06_awake n).bind fun r4 =>
  some r4
 else
  (
    (address_Check n a_0).bind fun r6 =>
    (ref06_Check n a_0).bind fun r8 =>
    if r6 = r8 then
     (address_Format n a_0).bind fun r11 =>
     (ref06_Format n a_0).bind fun r13 =>
     if r11 = r13 then
      (address_FormatKey n a_0.fKey).bind fun r16 =>
      (ref06_FormatKey n a_0.fKey).bind fun r18 =>
      if r16 = r18 then
       (law06_awake n).bind fun r21 =>
       some r21
      else
       some false
     else
      some false
    else
     some false
   : Option Bool).bind fun t23 =>
  some t23

set_option maxHeartbeats 4000000 in
theorem law06_AddressChecks_ok (n : Nat) (a_0 : TAddress) (r : Bool) (h0 : law06_AddressChecks n a_0 = some r) : PCalls Tryz.prog 3 [.agg (TAddress.cs a_0)] (· = .p (eB r)) := by
 unfold law06_AddressChecks at h0
 refine pbodyA good Tryz.func3 rfl rfl rfl fun w0 => ?_
 refine awp_seq (awp_reg ?_)
 refine ro rfl (ok_box rfl rfl rfl rfl rfl ?_)
 refine ro rfl (ok_assign rfl rfl rfl rfl ?_)
 refine rn ?_
 refine awp_seq (awp_seq (awp_reg ?_))
 refine ro rfl (ok_loadPA rfl rfl rfl rfl rfl rfl rfl rfl rfl ?_)
 obtain ⟨r1, e2, h0⟩ := bd_cut h0
 refine ro rfl (ok_callP (law06_few_ok _ a_0 _ e2) rfl rfl rfl rfl ⟨sr, trivial⟩ Tryz.call7 rfl ?_)
 refine ro rfl (ok_not rfl rfl rfl rfl ?_)
 refine rn ?_
 refine wp_if rfl (fun c3 => ?_) (fun c3 => ?_)
 ·replace h0 := if_t c3 h0
  refine awp_seq (awp_reg ?_)
  obtain ⟨r4, e5, h0⟩ := bd_cut h0
  refine ro rfl (ok_callP (law06_awake_ok _  _ e5) rfl rfl rfl rfl trivial Tryz.call8 rfl ?_)
  refine ro rfl (ok_assign rfl rfl rfl rfl ?_)
  refine rn ?_
  refine awp_ret ?_
  (repeat (first | refine uw ?_ | refine uo rfl ?_))
  have e0 := oi h0
  subst e0
  refine reta_mk rfl ?_
  exact sr
 ·replace h0 := if_bf c3 h0
  refine awp_skip (awp_seq ?_)
  obtain ⟨o25, h1, h0⟩ := bd_cut h0
  refine awp_joinN ⟨[(2, .p (eB o25))], []⟩ ?_ ?_
  ·intro s' hle
   (repeat (first | refine uw ?_ | refine uo rfl ?_))
   refine awp_ghost hle ?_
   refine awp_ret ?_
   (repeat (first | refine uw ?_ | refine uo rfl ?_))
   have e0 := oi h0
   subst e0
   refine reta_mk rfl ?_
   exact sr
  ·skip
   obtain ⟨r6, e7, h1⟩ := bd_cut h1
   obtain ⟨r8, e9, h1⟩ := bd_cut h1
   refine awp_byD (p := r6 = r8) (fun c10 => ?_) (fun c10 => ?_)
   ·replace h1 := if_t c10 h1
    obtain ⟨r11, e12, h1⟩ := bd_cut h1
    obtain ⟨r13, e14, h1⟩ := bd_cut h1
    refine awp_byD (p := r11 = r13) (fun c15 => ?_) (fun c15 => ?_)
    ·replace h1 := if_t c15 h1
     obtain ⟨r16, e17, h1⟩ := bd_cut h1
     obtain ⟨r18, e19, h1⟩ := bd_cut h1
     refine awp_byD (p := r16 = r18) (fun c20 => ?_) (fun c20 => ?_)
     ·replace h1 := if_t c20 h1
      obtain ⟨r21, e22, h1⟩ := bd_cut h1
      refine awp_drawQ [(1, .ptr 1 0)] rfl ⟨rfl, trivial⟩ rfl ?_
      refine dq_cons (.p (.agg (TAddress.cs a_0))) [(1, _)] ⟨.inl rfl, trivial⟩ (fun sl hsl K hK => one_op rfl (ok_loadPA rfl rfl rfl rfl rfl (hsl _ _ rfl) rfl rfl rfl hK)) rfl rfl rfl ?_
      refine dq_cons (.p (eI r6)) [(7, _)] ⟨.inr ⟨0, rfl, rfl⟩, trivial⟩ (fun sl hsl K hK => one_op rfl (ok_callP (address_Check_ok _ a_0 _ e7) rfl rfl rfl (args_cons (hsl _ _ rfl) args_nil) ⟨sr, trivial⟩ Tryz.call9 rfl hK)) rfl rfl rfl ?_
      refine dq_cons (.p (.agg (TAddress.cs a_0))) [(1, _)] ⟨.inl rfl, trivial⟩ (fun sl hsl K hK => one_op rfl (ok_loadPA rfl rfl rfl rfl rfl (hsl _ _ rfl) rfl rfl rfl hK)) rfl rfl rfl ?_
      refine dq_cons (.p (eI r8)) [(9, _)] ⟨.inr ⟨2, rfl, rfl⟩, trivial⟩ (fun sl hsl K hK => one_op rfl (ok_callP (ref06_Check_ok _ a_0 _ e9) rfl rfl rfl (args_cons (hsl _ _ rfl) args_nil) ⟨sr, trivial⟩ Tryz.call10 rfl hK)) rfl rfl rfl ?_
      refine dq_cons (.p (eB (decide (r6 = r8)))) [(8, _), (10, _)] ⟨.inr ⟨1, rfl, rfl⟩, .inr ⟨3, rfl, rfl⟩, trivial⟩ (fun sl hsl K hK => one_op rfl (ok_cmp rfl rfl rfl (hsl _ _ rfl) (hsl _ _ rfl) rfl hK)) rfl rfl rfl ?_
      refine dq_cons (.p (eB (decide (r6 = r8)))) [(11, _)] ⟨.inr ⟨4, rfl, rfl⟩, trivial⟩ (fun sl hsl K hK => one_op rfl (ok_move rfl rfl rfl (hsl _ _ rfl) hK)) rfl rfl rfl ?_
      refine dq_cons (.p (.agg (TAddress.cs a_0))) [(1, _), (12, _)] ⟨.inl rfl, .inr ⟨5, rfl, rfl⟩, trivial⟩ (fun sl hsl K hK => one_yes (ok_loadPA rfl rfl rfl rfl rfl (hsl _ _ rfl) rfl rfl rfl hK) rfl rfl (hsl _ _ rfl) (dt c10)) rfl rfl rfl ?_
      refine dq_cons (.p (eS r11)) [(12, _), (13, _)] ⟨.inr ⟨5, rfl, rfl⟩, .inr ⟨6, rfl, rfl⟩, trivial⟩ (fun sl hsl K hK => one_yes (ok_callP (address_Format_ok _ a_0 _ e12) rfl rfl rfl (args_cons (hsl _ _ rfl) args_nil) ⟨sr, trivial⟩ Tryz.call11 rfl hK) rfl rfl (hsl _ _ rfl) (dt c10)) rfl rfl rfl ?_
      refine dq_cons (.p (.agg (TAddress.cs a_0))) [(1, _), (12, _)] ⟨.inl rfl, .inr ⟨5, rfl, rfl⟩, trivial⟩ (fun sl hsl K hK => one_yes (ok_loadPA rfl rfl rfl rfl rfl (hsl _ _ rfl) rfl rfl rfl hK) rfl rfl (hsl _ _ rfl) (dt c10)) rfl rfl rfl ?_
      refine dq_cons (.p (eS r13)) [(12, _), (15, _)] ⟨.inr ⟨5, rfl, rfl⟩, .inr ⟨8, rfl, rfl⟩, trivial⟩ (fun sl hsl K hK => one_yes (ok_callP (ref06_Format_ok _ a_0 _ e14) rfl rfl rfl (args_cons (hsl _ _ rfl) args_nil) ⟨sr, trivial⟩ Tryz.call12 rfl hK) rfl rfl (hsl _ _ rfl) (dt c10)) rfl rfl rfl ?_
      refine dq_cons (.p (eB (decide (r11 = r13)))) [(12, _), (14, _), (16, _)] ⟨.inr ⟨5, rfl, rfl⟩, .inr ⟨7, rfl, rfl⟩, .inr ⟨9, rfl, rfl⟩, trivial⟩ (fun sl hsl K hK => one_yes (ok_cmpS rfl rfl rfl (hsl _ _ rfl) (hsl _ _ rfl) rfl hK) rfl rfl (hsl _ _ rfl) (dt c10)) rfl rfl rfl ?_
      refine dq_cons (.p (eB (decide (r11 = r13)))) [(12, _), (17, _)] ⟨.inr ⟨5, rfl, rfl⟩, .inr ⟨10, rfl, rfl⟩, trivial⟩ (fun sl hsl K hK => one_op rfl (ok_pick_true rfl rfl rfl (hsl _ _ rfl) (dt c10) (hsl _ _ rfl) hK)) rfl rfl rfl ?_
      refine dq_cons (.p (eB (decide (r11 = r13)))) [(18, _)] ⟨.inr ⟨11, rfl, rfl⟩, trivial⟩ (fun sl hsl K hK => one_op rfl (ok_move rfl rfl rfl (hsl _ _ rfl) hK)) rfl rfl rfl ?_
      refine dq_cons (.ptr 1 4) [(1, _), (19, _)] ⟨.inl rfl, .inr ⟨12, rfl, rfl⟩, trivial⟩ (fun sl hsl K hK => one_yes (ok_fieldAddrP rfl rfl rfl rfl rfl rfl rfl rfl (hsl _ _ rfl) hK) rfl rfl (hsl _ _ rfl) (dt c15)) rfl rfl rfl ?_
      refine dq_cons (.p (.agg (TKey.cs a_0.fKey))) [(19, _), (20, _)] ⟨.inr ⟨12, rfl, rfl⟩, .inr ⟨13, rfl, rfl⟩, trivial⟩ (fun sl hsl K hK => one_yes (ok_loadPA rfl rfl rfl rfl rfl (hsl _ _ rfl) rfl rfl rfl hK) rfl rfl (hsl _ _ rfl) (dt c15)) rfl rfl rfl ?_
      refine dq_cons (.p (eS r16)) [(19, _), (21, _)] ⟨.inr ⟨12, rfl, rfl⟩, .inr ⟨14, rfl, rfl⟩, trivial⟩ (fun sl hsl K hK => one_yes (ok_callP (address_FormatKey_ok _ a_0.fKey _ e17) rfl rfl rfl (args_cons (hsl _ _ rfl) args_nil) ⟨sr, trivial⟩ Tryz.call13 rfl hK) rfl rfl (hsl _ _ rfl) (dt c15)) rfl rfl rfl ?_
      refine dq_cons (.ptr 1 4) [(1, _), (19, _)] ⟨.inl rfl, .inr ⟨12, rfl, rfl⟩, trivial⟩ (fun sl hsl K hK => one_yes (ok_fieldAddrP rfl rfl rfl rfl rfl rfl rfl rfl (hsl _ _ rfl) hK) rfl rfl (hsl _ _ rfl) (dt c15)) rfl rfl rfl ?_
      refine dq_cons (.p (.agg (TKey.cs a_0.fKey))) [(19, _), (23, _)] ⟨.inr ⟨12, rfl, rfl⟩, .inr ⟨16, rfl, rfl⟩, trivial⟩ (fun sl hsl K hK => one_yes (ok_loadPA rfl rfl rfl rfl rfl (hsl _ _ rfl) rfl rfl rfl hK) rfl rfl (hsl _ _ rfl) (dt c15)) rfl rfl rfl ?_
      refine dq_cons (.p (eS r18)) [(19, _), (24, _)] ⟨.inr ⟨12, rfl, rfl⟩, .inr ⟨17, rfl, rfl⟩, trivial⟩ (fun sl hsl K hK => one_yes (ok_callP (ref06_FormatKey_ok _ a_0.fKey _ e19) rfl rfl rfl (args_cons (hsl _ _ rfl) args_nil) ⟨sr, trivial⟩ Tryz.call14 rfl hK) rfl rfl (hsl _ _ rfl) (dt c15)) rfl rfl rfl ?_
      refine dq_cons (.p (eB (decide (r16 = r18)))) [(19, _), (22, _), (25, _)] ⟨.inr ⟨12, rfl, rfl⟩, .inr ⟨15, rfl, rfl⟩, .inr ⟨18, rfl, rfl⟩, trivial⟩ (fun sl hsl K hK => one_yes (ok_cmpS rfl rfl rfl (hsl _ _ rfl) (hsl _ _ rfl) rfl hK) rfl rfl (hsl _ _ rfl) (dt c15)) rfl rfl rfl ?_
      refine dq_cons (.p (eB (decide (r16 = r18)))) [(19, _), (26, _)] ⟨.inr ⟨12, rfl, rfl⟩, .inr ⟨19, rfl, rfl⟩, trivial⟩ (fun sl hsl K hK => one_op rfl (ok_pick_true rfl rfl rfl (hsl _ _ rfl) (dt c15) (hsl _ _ rfl) hK)) rfl rfl rfl ?_
      refine dq_cons (.p (eB (decide (r16 = r18)))) [(27, _)] ⟨.inr ⟨20, rfl, rfl⟩, trivial⟩ (fun sl hsl K hK => one_op rfl (ok_move rfl rfl rfl (hsl _ _ rfl) hK)) rfl rfl rfl ?_
      refine dq_cons (.p (eB r21)) [(28, _)] ⟨.inr ⟨21, rfl, rfl⟩, trivial⟩ (fun sl hsl K hK => one_yes (ok_callP (law06_awake_ok _  _ e22) rfl rfl rfl args_nil trivial Tryz.call8 rfl hK) rfl rfl (hsl _ _ rfl) (dt c20)) rfl rfl rfl ?_
      refine dq_cons (.p (eB r21)) [(28, _), (29, _)] ⟨.inr ⟨21, rfl, rfl⟩, .inr ⟨22, rfl, rfl⟩, trivial⟩ (fun sl hsl K hK => one_op rfl (ok_pick_true rfl rfl rfl (hsl _ _ rfl) (dt c20) (hsl _ _ rfl) hK)) rfl rfl rfl ?_
      refine dq_cons (.p (eB r21)) [(30, _)] ⟨.inr ⟨23, rfl, rfl⟩, trivial⟩ (fun sl hsl K hK => one_op rfl (ok_assign rfl rfl rfl (hsl _ _ rfl) hK)) rfl rfl rfl ?_
      refine dq_nil ?_
      (repeat (first | refine uw ?_ | refine uo rfl ?_))
      have e1 := oi h1
      subst e1
      exact ghost_le (le_mk ⟨er rfl, trivial⟩ trivial)
     ·replace h1 := if_f c20 h1
      refine awp_drawQ [(1, .ptr 1 0)] rfl ⟨rfl, trivial⟩ rfl ?_
      refine dq_cons (.p (.agg (TAddress.cs a_0))) [(1, _)] ⟨.inl rfl, trivial⟩ (fun sl hsl K hK => one_op rfl (ok_loadPA rfl rfl rfl rfl rfl (hsl _ _ rfl) rfl rfl rfl hK)) rfl rfl rfl ?_
      refine dq_cons (.p (eI r6)) [(7, _)] ⟨.inr ⟨0, rfl, rfl⟩, trivial⟩ (fun sl hsl K hK => one_op rfl (ok_callP (address_Check_ok _ a_0 _ e7) rfl rfl rfl (args_cons (hsl _ _ rfl) args_nil) ⟨sr, trivial⟩ Tryz.call9 rfl hK)) rfl rfl rfl ?_
      refine dq_cons (.p (.agg (TAddress.cs a_0))) [(1, _)] ⟨.inl rfl, trivial⟩ (fun sl hsl K hK => one_op rfl (ok_loadPA rfl rfl rfl rfl rfl (hsl _ _ rfl) rfl rfl rfl hK)) rfl rfl rfl ?_
      refine dq_cons (.p (eI r8)) [(9, _)] ⟨.inr ⟨2, rfl, rfl⟩, trivial⟩ (fun sl hsl K hK => one_op rfl (ok_callP (ref06_Check_ok _ a_0 _ e9) rfl rfl rfl (args_cons (hsl _ _ rfl) args_nil) ⟨sr, trivial⟩ Tryz.call10 rfl hK)) rfl rfl rfl ?_
      refine dq_cons (.p (eB (decide (r6 = r8)))) [(8, _), (10, _)] ⟨.inr ⟨1, rfl, rfl⟩, .inr ⟨3, rfl, rfl⟩, trivial⟩ (fun sl hsl K hK => one_op rfl (ok_cmp rfl rfl rfl (hsl _ _ rfl) (hsl _ _ rfl) rfl hK)) rfl rfl rfl ?_
      refine dq_cons (.p (eB (decide (r6 = r8)))) [(11, _)] ⟨.inr ⟨4, rfl, rfl⟩, trivial⟩ (fun sl hsl K hK => one_op rfl (ok_move rfl rfl rfl (hsl _ _ rfl) hK)) rfl rfl rfl ?_
      refine dq_cons (.p (.agg (TAddress.cs a_0))) [(1, _), (12, _)] ⟨.inl rfl, .inr ⟨5, rfl, rfl⟩, trivial⟩ (fun sl hsl K hK => one_yes (ok_loadPA rfl rfl rfl rfl rfl (hsl _ _ rfl) rfl rfl rfl hK) rfl rfl (hsl _ _ rfl) (dt c10)) rfl rfl rfl ?_
      refine dq_cons (.p (eS r11)) [(12, _), (13, _)] ⟨.inr ⟨5, rfl, rfl⟩, .inr ⟨6, rfl, rfl⟩, trivial⟩ (fun sl hsl K hK => one_yes (ok_callP (address_Format_ok _ a_0 _ e12) rfl rfl rfl (args_cons (hsl _ _ rfl) args_nil) ⟨sr, trivial⟩ Tryz.call11 rfl hK) rfl rfl (hsl _ _ rfl) (dt c10)) rfl rfl rfl ?_
      refine dq_cons (.p (.agg (TAddress.cs a_0))) [(1, _), (12, _)] ⟨.inl rfl, .inr ⟨5, rfl, rfl⟩, trivial⟩ (fun sl hsl K hK => one_yes (ok_loadPA rfl rfl rfl rfl rfl (hsl _ _ rfl) rfl rfl rfl hK) rfl rfl (hsl _ _ rfl) (dt c10)) rfl rfl rfl ?_
      refine dq_cons (.p (eS r13)) [(12, _), (15, _)] ⟨.inr ⟨5, rfl, rfl⟩, .inr ⟨8, rfl, rfl⟩, trivial⟩ (fun sl hsl K hK => one_yes (ok_callP (ref06_Format_ok _ a_0 _ e14) rfl rfl rfl (args_cons (hsl _ _ rfl) args_nil) ⟨sr, trivial⟩ Tryz.call12 rfl hK) rfl rfl (hsl _ _ rfl) (dt c10)) rfl rfl rfl ?_
      refine dq_cons (.p (eB (decide (r11 = r13)))) [(12, _), (14, _), (16, _)] ⟨.inr ⟨5, rfl, rfl⟩, .inr ⟨7, rfl, rfl⟩, .inr ⟨9, rfl, rfl⟩, trivial⟩ (fun sl hsl K hK => one_yes (ok_cmpS rfl rfl rfl (hsl _ _ rfl) (hsl _ _ rfl) rfl hK) rfl rfl (hsl _ _ rfl) (dt c10)) rfl rfl rfl ?_
      refine dq_cons (.p (eB (decide (r11 = r13)))) [(12, _), (17, _)] ⟨.inr ⟨5, rfl, rfl⟩, .inr ⟨10, rfl, rfl⟩, trivial⟩ (fun sl hsl K hK => one_op rfl (ok_pick_true rfl rfl rfl (hsl _ _ rfl) (dt c10) (hsl _ _ rfl) hK)) rfl rfl rfl ?_
      refine dq_cons (.p (eB (decide (r11 = r13)))) [(18, _)] ⟨.inr ⟨11, rfl, rfl⟩, trivial⟩ (fun sl hsl K hK => one_op rfl (ok_move rfl rfl rfl (hsl _ _ rfl) hK)) rfl rfl rfl ?_
      refine dq_cons (.ptr 1 4) [(1, _), (19, _)] ⟨.inl rfl, .inr ⟨12, rfl, rfl⟩, trivial⟩ (fun sl hsl K hK => one_yes (ok_fieldAddrP rfl rfl rfl rfl rfl rfl rfl rfl (hsl _ _ rfl) hK) rfl rfl (hsl _ _ rfl) (dt c15)) rfl rfl rfl ?_
      refine dq_cons (.p (.agg (TKey.cs a_0.fKey))) [(19, _), (20, _)] ⟨.inr ⟨12, rfl, rfl⟩, .inr ⟨13, rfl, rfl⟩, trivial⟩ (fun sl hsl K hK => one_yes (ok_loadPA rfl rfl rfl rfl rfl (hsl _ _ rfl) rfl rfl rfl hK) rfl rfl (hsl _ _ rfl) (dt c15)) rfl rfl rfl ?_
      refine dq_cons (.p (eS r16)) [(19, _), (21, _)] ⟨.inr ⟨12, rfl, rfl⟩, .inr ⟨14, rfl, rfl⟩, trivial⟩ (fun sl hsl K hK => one_yes (ok_callP (address_FormatKey_ok _ a_0.fKey _ e17) rfl rfl rfl (args_cons (hsl _ _ rfl) args_nil) ⟨sr, trivial⟩ Tryz.call13 rfl hK) rfl rfl (hsl _ _ rfl) (dt c15)) rfl rfl rfl ?_
      refine dq_cons (.ptr 1 4) [(1, _), (19, _)] ⟨.inl rfl, .inr ⟨12, rfl, rfl⟩, trivial⟩ (fun sl hsl K hK => one_yes (ok_fieldAddrP rfl rfl rfl rfl rfl rfl rfl rfl (hsl _ _ rfl) hK) rfl rfl (hsl _ _ rfl) (dt c15)) rfl rfl rfl ?_
      refine dq_cons (.p (.agg (TKey.cs a_0.fKey))) [(19, _), (23, _)] ⟨.inr ⟨12, rfl, rfl⟩, .inr ⟨16, rfl, rfl⟩, trivial⟩ (fun sl hsl K hK => one_yes (ok_loadPA rfl rfl rfl rfl rfl (hsl _ _ rfl) rfl rfl rfl hK) rfl rfl (hsl _ _ rfl) (dt c15)) rfl rfl rfl ?_
      refine dq_cons (.p (eS r18)) [(19, _), (24, _)] ⟨.inr ⟨12, rfl, rfl⟩, .inr ⟨17, rfl, rfl⟩, trivial⟩ (fun sl hsl K hK => one_yes (ok_callP (ref06_FormatKey_ok _ a_0.fKey _ e19) rfl rfl rfl (args_cons (hsl _ _ rfl) args_nil) ⟨sr, trivial⟩ Tryz.call14 rfl hK) rfl rfl (hsl _ _ rfl) (dt c15)) rfl rfl rfl ?_
      refine dq_cons (.p (eB (decide (r16 = r18)))) [(19, _), (22, _), (25, _)] ⟨.inr ⟨12, rfl, rfl⟩, .inr ⟨15, rfl, rfl⟩, .inr ⟨18, rfl, rfl⟩, trivial⟩ (fun sl hsl K hK => one_yes (ok_cmpS rfl rfl rfl (hsl _ _ rfl) (hsl _ _ rfl) rfl hK) rfl rfl (hsl _ _ rfl) (dt c15)) rfl rfl rfl ?_
      refine dq_cons (.p (eB (decide (r16 = r18)))) [(19, _), (26, _)] ⟨.inr ⟨12, rfl, rfl⟩, .inr ⟨19, rfl, rfl⟩, trivial⟩ (fun sl hsl K hK => one_op rfl (ok_pick_true rfl rfl rfl (hsl _ _ rfl) (dt c15) (hsl _ _ rfl) hK)) rfl rfl rfl ?_
      refine dq_cons (.p (eB (decide (r16 = r18)))) [(27, _)] ⟨.inr ⟨20, rfl, rfl⟩, trivial⟩ (fun sl hsl K hK => one_op rfl (ok_move rfl rfl rfl (hsl _ _ rfl) hK)) rfl rfl rfl ?_
      refine dq_cons (.p (.val Go.undef)) [(28, _)] ⟨.inr ⟨21, rfl, rfl⟩, trivial⟩ (fun sl hsl K hK => one_no rfl rfl (hsl _ _ rfl) (df c20) rfl rfl hK) rfl rfl rfl ?_
      refine dq_cons (.p (eB false)) [(28, _), (29, _)] ⟨.inr ⟨21, rfl, rfl⟩, .inr ⟨22, rfl, rfl⟩, trivial⟩ (fun sl hsl K hK => one_op rfl (ok_pick_false rfl rfl rfl (hsl _ _ rfl) (df c20) rfl hK)) rfl rfl rfl ?_
      refine dq_cons (.p (eB false)) [(30, _)] ⟨.inr ⟨23, rfl, rfl⟩, trivial⟩ (fun sl hsl K hK => one_op rfl (ok_assign rfl rfl rfl (hsl _ _ rfl) hK)) rfl rfl rfl ?_
      refine dq_nil ?_
      (repeat (first | refine uw ?_ | refine uo rfl ?_))
      have e1 := oi h1
      subst e1
      exact ghost_le (le_mk ⟨er rfl, trivial⟩ trivial)
    ·replace h1 := if_f c15 h1
     refine awp_drawQ [(1, .ptr 1 0)] rfl ⟨rfl, trivial⟩ rfl ?_
     refine dq_cons (.p (.agg (TAddress.cs a_0))) [(1, _)] ⟨.inl rfl, trivial⟩ (fun sl hsl K hK => one_op rfl (ok_loadPA rfl rfl rfl rfl rfl (hsl _ _ rfl) rfl rfl rfl hK)) rfl rfl rfl ?_
     refine dq_cons (.p (eI r6)) [(7, _)] ⟨.inr ⟨0, rfl, rfl⟩, trivial⟩ (fun sl hsl K hK => one_op rfl (ok_callP (address_Check_ok _ a_0 _ e7) rfl rfl rfl (args_cons (hsl _ _ rfl) args_nil) ⟨sr, trivial⟩ Tryz.call9 rfl hK)) rfl rfl rfl ?_
     refine dq_cons (.p (.agg (TAddress.cs a_0))) [(1, _)] ⟨.inl rfl, trivial⟩ (fun sl hsl K hK => one_op rfl (ok_loadPA rfl rfl rfl rfl rfl (hsl _ _ rfl) rfl rfl rfl hK)) rfl rfl rfl ?_
     refine dq_cons (.p (eI r8)) [(9, _)] ⟨.inr ⟨2, rfl, rfl⟩, trivial⟩ (fun sl hsl K hK => one_op rfl (ok_callP (ref06_Check_ok _ a_0 _ e9) rfl rfl rfl (args_cons (hsl _ _ rfl) args_nil) ⟨sr, trivial⟩ Tryz.call10 rfl hK)) rfl rfl rfl ?_
     refine dq_cons (.p (eB (decide (r6 = r8)))) [(8, _), (10, _)] ⟨.inr ⟨1, rfl, rfl⟩, .inr ⟨3, rfl, rfl⟩, trivial⟩ (fun sl hsl K hK => one_op rfl (ok_cmp rfl rfl rfl (hsl _ _ rfl) (hsl _ _ rfl) rfl hK)) rfl rfl rfl ?_
     refine dq_cons (.p (eB (decide (r6 = r8)))) [(11, _)] ⟨.inr ⟨4, rfl, rfl⟩, trivial⟩ (fun sl hsl K hK => one_op rfl (ok_move rfl rfl rfl (hsl _ _ rfl) hK)) rfl rfl rfl ?_
     refine dq_cons (.p (.agg (TAddress.cs a_0))) [(1, _), (12, _)] ⟨.inl rfl, .inr ⟨5, rfl, rfl⟩, trivial⟩ (fun sl hsl K hK => one_yes (ok_loadPA rfl rfl rfl rfl rfl (hsl _ _ rfl) rfl rfl rfl hK) rfl rfl (hsl _ _ rfl) (dt c10)) rfl rfl rfl ?_
     refine dq_cons (.p (eS r11)) [(12, _), (13, _)] ⟨.inr ⟨5, rfl, rfl⟩, .inr ⟨6, rfl, rfl⟩, trivial⟩ (fun sl hsl K hK => one_yes (ok_callP (address_Format_ok _ a_0 _ e12) rfl rfl rfl (args_cons (hsl _ _ rfl) args_nil) ⟨sr, trivial⟩ Tryz.call11 rfl hK) rfl rfl (hsl _ _ rfl) (dt c10)) rfl rfl rfl ?_
     refine dq_cons (.p (.agg (TAddress.cs a_0))) [(1, _), (12, _)] ⟨.inl rfl, .inr ⟨5, rfl, rfl⟩, trivial⟩ (fun sl hsl K hK => one_yes (ok_loadPA rfl rfl rfl rfl rfl (hsl _ _ rfl) rfl rfl rfl hK) rfl rfl (hsl _ _ rfl) (dt c10)) rfl rfl rfl ?_
     refine dq_cons (.p (eS r13)) [(12, _), (15, _)] ⟨.inr ⟨5, rfl, rfl⟩, .inr ⟨8, rfl, rfl⟩, trivial⟩ (fun sl hsl K hK => one_yes (ok_callP (ref06_Format_ok _ a_0 _ e14) rfl rfl rfl (args_cons (hsl _ _ rfl) args_nil) ⟨sr, trivial⟩ Tryz.call12 rfl hK) rfl rfl (hsl _ _ rfl) (dt c10)) rfl rfl rfl ?_
     refine dq_cons (.p (eB (decide (r11 = r13)))) [(12, _), (14, _), (16, _)] ⟨.inr ⟨5, rfl, rfl⟩, .inr ⟨7, rfl, rfl⟩, .inr ⟨9, rfl, rfl⟩, trivial⟩ (fun sl hsl K hK => one_yes (ok_cmpS rfl rfl rfl (hsl _ _ rfl) (hsl _ _ rfl) rfl hK) rfl rfl (hsl _ _ rfl) (dt c10)) rfl rfl rfl ?_
     refine dq_cons (.p (eB (decide (r11 = r13)))) [(12, _), (17, _)] ⟨.inr ⟨5, rfl, rfl⟩, .inr ⟨10, rfl, rfl⟩, trivial⟩ (fun sl hsl K hK => one_op rfl (ok_pick_true rfl rfl rfl (hsl _ _ rfl) (dt c10) (hsl _ _ rfl) hK)) rfl rfl rfl ?_
     refine dq_cons (.p (eB (decide (r11 = r13)))) [(18, _)] ⟨.inr ⟨11, rfl, rfl⟩, trivial⟩ (fun sl hsl K hK => one_op rfl (ok_move rfl rfl rfl (hsl _ _ rfl) hK)) rfl rfl rfl ?_
     refine dq_cons (.p (.val Go.undef)) [(1, _), (19, _)] ⟨.inl rfl, .inr ⟨12, rfl, rfl⟩, trivial⟩ (fun sl hsl K hK => one_no rfl rfl (hsl _ _ rfl) (df c15) rfl rfl hK) rfl rfl rfl ?_
     refine dq_cons (.p (.val Go.undef)) [(19, _), (20, _)] ⟨.inr ⟨12, rfl, rfl⟩, .inr ⟨13, rfl, rfl⟩, trivial⟩ (fun sl hsl K hK => one_no rfl rfl (hsl _ _ rfl) (df c15) rfl rfl hK) rfl rfl rfl ?_
     refine dq_cons (.p (.val Go.undef)) [(19, _), (21, _)] ⟨.inr ⟨12, rfl, rfl⟩, .inr ⟨14, rfl, rfl⟩, trivial⟩ (fun sl hsl K hK => one_no rfl rfl (hsl _ _ rfl) (df c15) rfl rfl hK) rfl rfl rfl ?_
     refine dq_cons (.p (.val Go.undef)) [(1, _), (19, _)] ⟨.inl rfl, .inr ⟨12, rfl, rfl⟩, trivial⟩ (fun sl hsl K hK => one_no rfl rfl (hsl _ _ rfl) (df c15) rfl rfl hK) rfl rfl rfl ?_
     refine dq_cons (.p (.val Go.undef)) [(19, _), (23, _)] ⟨.inr ⟨12, rfl, rfl⟩, .inr ⟨16, rfl, rfl⟩, trivial⟩ (fun sl hsl K hK => one_no rfl rfl (hsl _ _ rfl) (df c15) rfl rfl hK) rfl rfl rfl ?_
     refine dq_cons (.p (.val Go.undef)) [(19, _), (24, _)] ⟨.inr ⟨12, rfl, rfl⟩, .inr ⟨17, rfl, rfl⟩, trivial⟩ (fun sl hsl K hK => one_no rfl rfl (hsl _ _ rfl) (df c15) rfl rfl hK) rfl rfl rfl ?_
     refine dq_cons (.p (.val Go.undef)) [(19, _), (22, _), (25, _)] ⟨.inr ⟨12, rfl, rfl⟩, .inr ⟨15, rfl, rfl⟩, .inr ⟨18, rfl, rfl⟩, trivial⟩ (fun sl hsl K hK => one_no rfl rfl (hsl _ _ rfl) (df c15) rfl rfl hK) rfl rfl rfl ?_
     refine dq_cons (.p (eB false)) [(19, _), (26, _)] ⟨.inr ⟨12, rfl, rfl⟩, .inr ⟨19, rfl, rfl⟩, trivial⟩ (fun sl hsl K hK => one_op rfl (ok_pick_false rfl rfl rfl (hsl _ _ rfl) (df c15) rfl hK)) rfl rfl rfl ?_
     refine dq_cons (.p (eB false)) [(27, _)] ⟨.inr ⟨20, rfl, rfl⟩, trivial⟩ (fun sl hsl K hK => one_op rfl (ok_move rfl rfl rfl (hsl _ _ rfl) hK)) rfl rfl rfl ?_
     refine dq_cons (.p (.val Go.undef)) [(28, _)] ⟨.inr ⟨21, rfl, rfl⟩, trivial⟩ (fun sl hsl K hK => one_no rfl rfl (hsl _ _ rfl) (rfl) rfl rfl hK) rfl rfl rfl ?_
     refine dq_cons (.p (eB false)) [(28, _), (29, _)] ⟨.inr ⟨21, rfl, rfl⟩, .inr ⟨22, rfl, rfl⟩, trivial⟩ (fun sl hsl K hK => one_op rfl (ok_pick_false rfl rfl rfl (hsl _ _ rfl) (rfl) rfl hK)) rfl rfl rfl ?_
     refine dq_cons (.p (eB false)) [(30, _)] ⟨.inr ⟨23, rfl, rfl⟩, trivial⟩ (fun sl hsl K hK => one_op rfl (ok_assign rfl rfl rfl (hsl _ _ rfl) hK)) rfl rfl rfl ?_
     refine dq_nil ?_
     (repeat (first | refine uw ?_ | refine uo rfl ?_))
     have e1 := oi h1
     subst e1
     exact ghost_le (le_mk ⟨er rfl, trivial⟩ trivial)
   ·replace h1 := if_f c10 h1
    refine awp_drawQ [(1, .ptr 1 0)] rfl ⟨rfl, trivial⟩ rfl ?_
    refine dq_cons (.p (.agg (TAddress.cs a_0))) [(1, _)] ⟨.inl rfl, trivial⟩ (fun sl hsl K hK => one_op rfl (ok_loadPA rfl rfl rfl rfl rfl (hsl _ _ rfl) rfl rfl rfl hK)) rfl rfl rfl ?_
    refine dq_cons (.p (eI r6)) [(7, _)] ⟨.inr ⟨0, rfl, rfl⟩, trivial⟩ (fun sl hsl K hK => one_op rfl (ok_callP (address_Check_ok _ a_0 _ e7) rfl rfl rfl (args_cons (hsl _ _ rfl) args_nil) ⟨sr, trivial⟩ Tryz.call9 rfl hK)) rfl rfl rfl ?_
    refine dq_cons (.p (.agg (TAddress.cs a_0))) [(1, _)] ⟨.inl rfl, trivial⟩ (fun sl hsl K hK => one_op rfl (ok_loadPA rfl rfl rfl rfl rfl (hsl _ _ rfl) rfl rfl rfl hK)) rfl rfl rfl ?_
    refine dq_cons (.p (eI r8)) [(9, _)] ⟨.inr ⟨2, rfl, rfl⟩, trivial⟩ (fun sl hsl K hK => one_op rfl (ok_callP (ref06_Check_ok _ a_0 _ e9) rfl rfl rfl (args_cons (hsl _ _ rfl) args_nil) ⟨sr, trivial⟩ Tryz.call10 rfl hK)) rfl rfl rfl ?_
    refine dq_cons (.p (eB (decide (r6 = r8)))) [(8, _), (10, _)] ⟨.inr ⟨1, rfl, rfl⟩, .inr ⟨3, rfl, rfl⟩, trivial⟩ (fun sl hsl K hK => one_op rfl (ok_cmp rfl rfl rfl (hsl _ _ rfl) (hsl _ _ rfl) rfl hK)) rfl rfl rfl ?_
    refine dq_cons (.p (eB (decide (r6 = r8)))) [(11, _)] ⟨.inr ⟨4, rfl, rfl⟩, trivial⟩ (fun sl hsl K hK => one_op rfl (ok_move rfl rfl rfl (hsl _ _ rfl) hK)) rfl rfl rfl ?_
    refine dq_cons (.p (.val Go.undef)) [(1, _), (12, _)] ⟨.inl rfl, .inr ⟨5, rfl, rfl⟩, trivial⟩ (fun sl hsl K hK => one_no rfl rfl (hsl _ _ rfl) (df c10) rfl rfl hK) rfl rfl rfl ?_
    refine dq_cons (.p (.val Go.undef)) [(12, _), (13, _)] ⟨.inr ⟨5, rfl, rfl⟩, .inr ⟨6, rfl, rfl⟩, trivial⟩ (fun sl hsl K hK => one_no rfl rfl (hsl _ _ rfl) (df c10) rfl rfl hK) rfl rfl rfl ?_
    refine dq_cons (.p (.val Go.undef)) [(1, _), (12, _)] ⟨.inl rfl, .inr ⟨5, rfl, rfl⟩, trivial⟩ (fun sl hsl K hK => one_no rfl rfl (hsl _ _ rfl) (df c10) rfl rfl hK) rfl rfl rfl ?_
    refine dq_cons (.p (.val Go.undef)) [(12, _), (15, _)] ⟨.inr ⟨5, rfl, rfl⟩, .inr ⟨8, rfl, rfl⟩, trivial⟩ (fun sl hsl K hK => one_no rfl rfl (hsl _ _ rfl) (df c10) rfl rfl hK) rfl rfl rfl ?_
    refine dq_cons (.p (.val Go.undef)) [(12, _), (14, _), (16, _)] ⟨.inr ⟨5, rfl, rfl⟩, .inr ⟨7, rfl, rfl⟩, .inr ⟨9, rfl, rfl⟩, trivial⟩ (fun sl hsl K hK => one_no rfl rfl (hsl _ _ rfl) (df c10) rfl rfl hK) rfl rfl rfl ?_
    refine dq_cons (.p (eB false)) [(12, _), (17, _)] ⟨.inr ⟨5, rfl, rfl⟩, .inr ⟨10, rfl, rfl⟩, trivial⟩ (fun sl hsl K hK => one_op rfl (ok_pick_false rfl rfl rfl (hsl _ _ rfl) (df c10) rfl hK)) rfl rfl rfl ?_
    refine dq_cons (.p (eB false)) [(18, _)] ⟨.inr ⟨11, rfl, rfl⟩, trivial⟩ (fun sl hsl K hK => one_op rfl (ok_move rfl rfl rfl (hsl _ _ rfl) hK)) rfl rfl rfl ?_
    refine dq_cons (.p (.val Go.undef)) [(1, _), (19, _)] ⟨.inl rfl, .inr ⟨12, rfl, rfl⟩, trivial⟩ (fun sl hsl K hK => one_no rfl rfl (hsl _ _ rfl) (rfl) rfl rfl hK) rfl rfl rfl ?_
    refine dq_cons (.p (.val Go.undef)) [(19, _), (20, _)] ⟨.inr ⟨12, rfl, rfl⟩, .inr ⟨13, rfl, rfl⟩, trivial⟩ (fun sl hsl K hK => one_no rfl rfl (hsl _ _ rfl) (rfl) rfl rfl hK) rfl rfl rfl ?_
    refine dq_cons (.p (.val Go.undef)) [(19, _), (21, _)] ⟨.inr ⟨12, rfl, rfl⟩, .inr ⟨14, rfl, rfl⟩, trivial⟩ (fun sl hsl K hK => one_no rfl rfl (hsl _ _ rfl) (rfl) rfl rfl hK) rfl rfl rfl ?_
    refine dq_cons (.p (.val Go.undef)) [(1, _), (19, _)] ⟨.inl rfl, .inr ⟨12, rfl, rfl⟩, trivial⟩ (fun sl hsl K hK => one_no rfl rfl (hsl _ _ rfl) (rfl) rfl rfl hK) rfl rfl rfl ?_
    refine dq_cons (.p (.val Go.undef)) [(19, _), (23, _)] ⟨.inr ⟨12, rfl, rfl⟩, .inr ⟨16, rfl, rfl⟩, trivial⟩ (fun sl hsl K hK => one_no rfl rfl (hsl _ _ rfl) (rfl) rfl rfl hK) rfl rfl rfl ?_
    refine dq_cons (.p (.val Go.undef)) [(19, _), (24, _)] ⟨.inr ⟨12, rfl, rfl⟩, .inr ⟨17, rfl, rfl⟩, trivial⟩ (fun sl hsl K hK => one_no rfl rfl (hsl _ _ rfl) (rfl) rfl rfl hK) rfl rfl rfl ?_
    refine dq_cons (.p (.val Go.undef)) [(19, _), (22, _), (25, _)] ⟨.inr ⟨12, rfl, rfl⟩, .inr ⟨15, rfl, rfl⟩, .inr ⟨18, rfl, rfl⟩, trivial⟩ (fun sl hsl K hK => one_no rfl rfl (hsl _ _ rfl) (rfl) rfl rfl hK) rfl rfl rfl ?_
    refine dq_cons (.p (eB false)) [(19, _), (26, _)] ⟨.inr ⟨12, rfl, rfl⟩, .inr ⟨19, rfl, rfl⟩, trivial⟩ (fun sl hsl K hK => one_op rfl (ok_pick_false rfl rfl rfl (hsl _ _ rfl) (rfl) rfl hK)) rfl rfl rfl ?_
    refine dq_cons (.p (eB false)) [(27, _)] ⟨.inr ⟨20, rfl, rfl⟩, trivial⟩ (fun sl hsl K hK => one_op rfl (ok_move rfl rfl rfl (hsl _ _ rfl) hK)) rfl rfl rfl ?_
    refine dq_cons (.p (.val Go.undef)) [(28, _)] ⟨.inr ⟨21, rfl, rfl⟩, trivial⟩ (fun sl hsl K hK => one_no rfl rfl (hsl _ _ rfl) (rfl) rfl rfl hK) rfl rfl rfl ?_
    refine dq_cons (.p (eB false)) [(28, _), (29, _)] ⟨.inr ⟨21, rfl, rfl⟩, .inr ⟨22, rfl, rfl⟩, trivial⟩ (fun sl hsl K hK => one_op rfl (ok_pick_false rfl rfl rfl (hsl _ _ rfl) (rfl) rfl hK)) rfl rfl rfl ?_
    refine dq_cons (.p (eB false)) [(30, _)] ⟨.inr ⟨23, rfl, rfl⟩, trivial⟩ (fun sl hsl K hK => one_op rfl (ok_assign rfl rfl rfl (hsl _ _ rfl) hK)) rfl rfl rfl ?_
    refine dq_nil ?_
    (repeat (first | refine uw ?_ | refine uo rfl ?_))
    have e1 := oi h1
    subst e1
    exact ghost_le (le_mk ⟨er rfl, trivial⟩ trivial)

end Go.Ab.R06
