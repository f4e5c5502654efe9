/- Chapter 46. -/
import Derived.Test.YtapfhipodpbflaaGreatDoorR46e
set_option linter.unusedVariables false
set_option linter.unusedSimpArgs false
set_option linter.unnecessarySimpa false
namespace Go.Ab.R06
open Go.Proofs Go.Ab Go.Ab.RB
attribute [local irreducible] awp rwpL OpOk PCalls OCalls AV.sub M Ghost

def ref46_Reason (r_0 : Int) : Option Bytes :=
 if r_0 = 1 then
  some ([110, 101, 119] : Bytes)
 else
  if r_0 = 2 then
   some ([99, 104, 97, 110, 103, 101, 100] : Bytes)
  else
   if r_0 = 3 then
    some ([114, 101, 113, 117, 105, 114, 101, 115, 32, 97, 32, 110, 101, 119, 32, 111, 98, 106, 101, 99, 116] : Bytes)
   else
    if r_0 = 4 then
     some ([116, 97, 105, 110, 116, 101, 100] : Bytes)
    else
     if r_0 = 5 then
      some ([116, 114, 105, 103, 103, 101, 114, 101, 100] : Bytes)
     else
      if r_0 = 6 then
       some ([114, 101, 113, 117, 101, 115, 116, 101, 100] : Bytes)
      else
       if r_0 = 7 then
        some ([110, 111, 116, 32, 105, 110, 32, 116, 104, 101, 32, 99, 111, 110, 102, 105, 103, 117, 114, 97, 116, 105, 111, 110] : Bytes)
       else
        if r_0 = 8 then
         some ([110, 111, 32, 115, 117, 99, 104, 32, 105, 110, 115, 116, 97, 110, 99, 101] : Bytes)
        else
         if r_0 = 9 then
          some ([108, 101, 102, 116, 32, 111, 118, 101, 114] : Bytes)
         else
          if r_0 = 10 then
           some ([100, 101, 115, 116, 114, 111, 121] : Bytes)
          else
           if r_0 = 11 then
            some ([110, 111, 116, 32, 107, 110, 111, 119, 110, 32, 121, 101, 116] : Bytes)
           else
            some ([] : Bytes)

set_option maxHeartbeats 4000000 in
theorem ref46_Reason_ok (r_0 : Int) (r : Bytes) (h0 : ref46_Reason r_0 = some r) : PCalls Tryz.prog 8 [eI r_0] (· = .p (eS r)) := by
 unfold ref46_Reason at h0
 refine pbodyA good Tryz.func8 rfl rfl rfl fun w0 => mP (fun v : Bytes => .p (eS v)) ?_
 refine nx 15 rfl (fD [4, 5] h0 rfl (fun c1 h0 => ?_) fun c1 h0 => ?_)
 ·exact nx 6 rfl (mQ (oi h0) rfl (sr))
 refine nx 6 rfl (fD [6, 7] h0 rfl (fun c2 h0 => ?_) fun c2 h0 => ?_)
 ·exact nx 6 rfl (mQ (oi h0) rfl (sr))
 refine nx 6 rfl (fD [8, 9] h0 rfl (fun c3 h0 => ?_) fun c3 h0 => ?_)
 ·exact nx 6 rfl (mQ (oi h0) rfl (sr))
 refine nx 6 rfl (fD [10, 11] h0 rfl (fun c4 h0 => ?_) fun c4 h0 => ?_)
 ·exact nx 6 rfl (mQ (oi h0) rfl (sr))
 refine nx 6 rfl (fD [12, 13] h0 rfl (fun c5 h0 => ?_) fun c5 h0 => ?_)
 ·exact nx 6 rfl (mQ (oi h0) rfl (sr))
 refine nx 6 rfl (fD [14, 15] h0 rfl (fun c6 h0 => ?_) fun c6 h0 => ?_)
 ·exact nx 6 rfl (mQ (oi h0) rfl (sr))
 refine nx 6 rfl (fD [16, 17] h0 rfl (fun c7 h0 => ?_) fun c7 h0 => ?_)
 ·exact nx 6 rfl (mQ (oi h0) rfl (sr))
 refine nx 6 rfl (fD [18, 19] h0 rfl (fun c8 h0 => ?_) fun c8 h0 => ?_)
 ·exact nx 6 rfl (mQ (oi h0) rfl (sr))
 refine nx 6 rfl (fD [20, 21] h0 rfl (fun c9 h0 => ?_) fun c9 h0 => ?_)
 ·exact nx 6 rfl (mQ (oi h0) rfl (sr))
 refine nx 6 rfl (fD [22, 23] h0 rfl (fun c10 h0 => ?_) fun c10 h0 => ?_)
 ·exact nx 6 rfl (mQ (oi h0) rfl (sr))
 refine nx 6 rfl (fD [24, 25] h0 rfl (fun c11 h0 => ?_) fun c11 h0 => ?_)
 ·exact nx 6 rfl (mQ (oi h0) rfl (sr))
 refine nx 2 rfl (mG (gE (t := ⟨[], []⟩) rfl rfl) ?_)
 exact nx 5 rfl (mQ (oi h0) rfl (sr))

def law46_ExplainReasons (n : Nat) (r_0 : Int) : Option Bool :=
 (
   (explain_Reason r_0).bind fun r1 =>
   (ref46_Reason r_0).bind fun r3 =>
   if r1 = r3 then
    (law46_awake n).bind fun r6 =>
    some r6
   else
    some false
  : Option Bool).bind fun t8 =>
 some t8

set_option maxHeartbeats 4000000 in
theorem law46_ExplainReasons_ok (n : Nat) (r_0 : Int) (r : Bool) (h0 : law46_ExplainReasons n r_0 = some r) : PCalls Tryz.prog 3 [eI r_0] (· = .p (eB r)) := by
 unfold law46_ExplainReasons at h0
 refine pbodyA good Tryz.func3 rfl rfl rfl fun w0 => mP (fun v : Bool => .p (eB v)) ?_
 refine nx 5 rfl (bd h0 fun o10 h1 h0 => ?_)
 refine kN o10 (fun v11 => ⟨[(2, .p (eB v11))], []⟩) ?_ ?_
 ·exact nx 2 rfl (mQ (oi h0) rfl (sr))
 refine nx 2 rfl (bd h1 fun r1 e2 h1 => ?_)
 refine oK (explain_Reason_ok r_0 _ e2) rfl ⟨sr, trivial⟩ Tryz.call7 rfl (nx 1 rfl ?_)
 refine bd h1 fun r3 e4 h1 => oK (ref46_Reason_ok r_0 _ e4) rfl ⟨sr, trivial⟩ Tryz.call8 rfl (oS rfl rfl ?_)
 refine nx 1 rfl (fD [7, 8] h1 rfl (fun c5 h1 => ?_) fun c5 h1 => ?_)
 ·refine bd h1 fun r6 e7 h1 => oK (law46_awake_ok _  _ e7) rfl trivial Tryz.call9 rfl (nx 3 rfl ?_)
  exact eX _ (oi h1).symm (gE rfl rfl)
 exact nx 4 rfl (eX _ (oi h1).symm (gE rfl rfl))

end Go.Ab.R06
