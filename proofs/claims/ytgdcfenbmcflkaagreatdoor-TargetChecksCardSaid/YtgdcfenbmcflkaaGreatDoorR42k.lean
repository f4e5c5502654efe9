/- Chapter 42. -/
import Derived.Test.YtgdcfenbmcflkaaGreatDoorR42a
set_option linter.unusedVariables false
set_option linter.unusedSimpArgs false
set_option linter.unnecessarySimpa false
namespace Go.Ab.R06
open Go.Proofs Go.Ab Go.Ab.RB
attribute [local irreducible] awp rwpL OpOk PCalls OCalls AV.sub M Ghost

def law42_TargetChecks (n : Nat) (l_0 : List Bytes) : Option Bool :=
 (
   (law42_short n l_0 100).bind fun r1 =>
   if (!r1) = true then
    (law42_awake n).bind fun r4 =>
    some r4
   else
    (target_Check n l_0).bind fun r6 =>
    (ref42_Check n l_0).bind fun r8 =>
    if r6 = r8 then
     (law42_awake n).bind fun r11 =>
     some r11
    else
     some false
  : Option Bool).bind fun t13 =>
 some t13

set_option maxHeartbeats 4000000 in
theorem law42_TargetChecks_ok (n : Nat) (l_0 : List Bytes) (r : Bool) (h0 : law42_TargetChecks n l_0 = some r) : PCalls Tryz.prog 3 [eL eS l_0] (· = .p (eB r)) := by
 unfold law42_TargetChecks at h0
 refine pbodyA good Tryz.func3 rfl rfl rfl fun w0 => mP (fun v : Bool => .p (eB v)) ?_
 refine nx 5 rfl (bd h0 fun o15 h1 h0 => ?_)
 refine kN o15 (fun v16 => ⟨[(2, .p (eB v16))], []⟩) ?_ ?_
 ·exact nx 2 rfl (mQ (oi h0) rfl (sr))
 refine nx 2 rfl (bd h1 fun r1 e2 h1 => ?_)
 refine oK (law42_short_ok _ l_0 100 _ e2) rfl ⟨sr, sr, trivial⟩ Tryz.call10 rfl (nx 2 rfl ?_)
 refine fB [5, 6] h1 rfl (fun c3 h1 => ?_) fun c3 h1 => ?_
 ·refine nx 7 rfl (bd h1 fun r4 e5 h1 => ?_)
  refine oK (law42_awake_ok _  _ e5) rfl trivial Tryz.call13 rfl (nx 3 rfl ?_)
  exact eX _ (oi h1).symm (gE rfl rfl)
 refine nx 1 rfl (bd h1 fun r6 e7 h1 => ?_)
 refine oK (target_Check_ok _ l_0 _ e7) rfl ⟨sr, trivial⟩ Tryz.call11 rfl (nx 1 rfl ?_)
 refine bd h1 fun r8 e9 h1 => oK (ref42_Check_ok _ l_0 _ e9) rfl ⟨sr, trivial⟩ Tryz.call12 rfl (nx 3 rfl ?_)
 refine fD [11, 12, 13] h1 rfl (fun c10 h1 => ?_) fun c10 h1 => ?_
 ·refine bd h1 fun r11 e12 h1 => oK (law42_awake_ok _  _ e12) rfl trivial Tryz.call13 rfl (nx 3 rfl ?_)
  exact eX _ (oi h1).symm (gE rfl rfl)
 exact nx 4 rfl (eX _ (oi h1).symm (gE rfl rfl))

end Go.Ab.R06
