/- Chapter 06. -/
import Derived.Test.YtijgdpmadidpaaaDoorR06
set_option linter.unusedVariables false
set_option linter.unusedSimpArgs false
set_option linter.unnecessarySimpa false
namespace Go.Ab.R06
open Go.Proofs Go.Ab Go.Ab.RB
attribute [local irreducible] awp rwpL OpOk PCalls OCalls AV.sub

def law06_AddressIdentifiers (n : Nat) (s_0 : Bytes) : Option Bool :=
 (
   if 5000 < (s_0.length : Int) then
    (law06_awake n).bind fun r2 =>
    some r2
   else
    (address_Identifier n s_0).bind fun r4 =>
    (ref06_Identifier n s_0).bind fun r6 =>
    if (r4 == r6) = true then
     (law06_awake n).bind fun r9 =>
     some r9
    else
     some false
  : Option Bool).bind fun t11 =>
 some t11

set_option maxHeartbeats 4000000 in
theorem law06_AddressIdentifiers_ok (n : Nat) (s_0 : Bytes) (r : Bool) (h0 : law06_AddressIdentifiers n s_0 = some r) : PCalls Tryd.prog 3 [eS s_0] (· = .p (eB r)) := by
 unfold law06_AddressIdentifiers at h0
 refine pbodyA good Tryd.func3 rfl rfl rfl fun w0 => ?_
 refine awp_seq (awp_reg ?_)
 refine ro rfl (ok_assign rfl rfl rfl rfl ?_)
 refine rn ?_
 refine awp_seq ?_
 obtain ⟨o13, h1, h0⟩ := bd_cut h0
 refine awp_joinN ⟨[(2, .p (eB o13))], []⟩ ?_ ?_
 ·intro s' hle
  (repeat (first | refine uw ?_ | refine uo rfl ?_))
  refine awp_ghost hle ?_
  refine awp_ret ?_
  (repeat (first | refine uw ?_ | refine uo rfl ?_))
  have e0 := oi h0
  subst e0
  refine reta_mk rfl ?_
  exact sr
 ·skip
  refine awp_reg ?_
  refine ro rfl (ok_move rfl rfl rfl rfl ?_)
  refine ro rfl (ok_lenS rfl rfl rfl rfl rfl rfl ?_)
  refine ro rfl (ok_cmp rfl rfl rfl rfl rfl rfl ?_)
  refine ro rfl (ok_move rfl rfl rfl rfl ?_)
  refine gd_D rfl rfl rfl (fun c1 => ?_) (fun c1 => ?_)
  ·replace h1 := if_t c1 h1
   refine gd_ft rfl rfl rfl (dt c1) rfl rfl ?_
   refine gd_ft rfl rfl rfl (dt c1) rfl rfl ?_
   refine gd_ft rfl rfl rfl (dt c1) rfl rfl ?_
   refine gd_ft rfl rfl rfl (dt c1) rfl rfl ?_
   refine gd_ft rfl rfl rfl (dt c1) rfl rfl ?_
   refine ro rfl (ok_pick_true rfl rfl rfl rfl (dt c1) rfl ?_)
   refine ro rfl (ok_move rfl rfl rfl rfl ?_)
   obtain ⟨r2, e3, h1⟩ := bd_cut h1
   refine gd_tt rfl rfl rfl (rfl) (ok_callP (law06_awake_ok _  _ e3) rfl rfl rfl rfl trivial Tryd.call9 rfl ?_)
   refine ro rfl (ok_pick_true rfl rfl rfl rfl (rfl) rfl ?_)
   refine ro rfl (ok_assign rfl rfl rfl rfl ?_)
   refine rn ?_
   (repeat (first | refine uw ?_ | refine uo rfl ?_))
   have e1 := oi h1
   subst e1
   exact ghost_le (le_mk ⟨er rfl, trivial⟩ trivial)
  ·replace h1 := if_f c1 h1
   refine gd_ff rfl rfl rfl (df c1) (ok_move rfl rfl rfl rfl ?_)
   obtain ⟨r4, e5, h1⟩ := bd_cut h1
   refine gd_ff rfl rfl rfl (df c1) (ok_callP (address_Identifier_ok _ s_0 _ e5) rfl rfl rfl rfl ⟨sr, trivial⟩ Tryd.call7 rfl ?_)
   refine gd_ff rfl rfl rfl (df c1) (ok_move rfl rfl rfl rfl ?_)
   obtain ⟨r6, e7, h1⟩ := bd_cut h1
   refine gd_ff rfl rfl rfl (df c1) (ok_callP (ref06_Identifier_ok _ s_0 _ e7) rfl rfl rfl rfl ⟨sr, trivial⟩ Tryd.call8 rfl ?_)
   refine gd_ff rfl rfl rfl (df c1) (ok_cmpB rfl rfl rfl rfl rfl rfl rfl rfl ?_)
   refine ro rfl (ok_pick_false rfl rfl rfl rfl (df c1) rfl ?_)
   refine ro rfl (ok_move rfl rfl rfl rfl ?_)
   refine gd_B rfl rfl rfl (fun c8 => ?_) (fun c8 => ?_)
   ·replace h1 := if_t c8 h1
    obtain ⟨r9, e10, h1⟩ := bd_cut h1
    refine gd_tt rfl rfl rfl (c8) (ok_callP (law06_awake_ok _  _ e10) rfl rfl rfl rfl trivial Tryd.call9 rfl ?_)
    refine ro rfl (ok_pick_true rfl rfl rfl rfl (c8) rfl ?_)
    refine ro rfl (ok_assign rfl rfl rfl rfl ?_)
    refine rn ?_
    (repeat (first | refine uw ?_ | refine uo rfl ?_))
    have e1 := oi h1
    subst e1
    exact ghost_le (le_mk ⟨er rfl, trivial⟩ trivial)
   ·replace h1 := if_bf c8 h1
    refine gd_tf rfl rfl rfl (c8) rfl rfl ?_
    refine ro rfl (ok_pick_false rfl rfl rfl rfl (c8) rfl ?_)
    refine ro rfl (ok_assign rfl rfl rfl rfl ?_)
    refine rn ?_
    (repeat (first | refine uw ?_ | refine uo rfl ?_))
    have e1 := oi h1
    subst e1
    exact ghost_le (le_mk ⟨er rfl, trivial⟩ trivial)

end Go.Ab.R06
