/- Chapter 06. -/
import Derived.Test.YtijgdpmadidpaaaGreatDoorR06
set_option linter.unusedVariables false
set_option linter.unusedSimpArgs false
set_option linter.unnecessarySimpa false
namespace Go.Ab.R06
open Go.Proofs Go.Ab Go.Ab.RB
attribute [local irreducible] awp rwpL OpOk PCalls OCalls AV.sub M Ghost

def law06_few_l1 (a_0 : TAddress) : Nat → Int → Option (Unit ⊕ Bool)
 | 0, _ => none
 | m + 1, i14 =>
 if i14 < (a_0.fModule.length : Int) then
  (
    ck ((0 : Int) ≤ i14 ∧ i14 < (a_0.fModule.length : Int)) <|
    if 5000 < (((lat a_0.fModule i14).fName).length : Int) then
     some true
    else
     ck ((0 : Int) ≤ i14 ∧ i14 < (a_0.fModule.length : Int)) <|
     some (decide (5000 < ((((lat a_0.fModule i14).fKey).fStr).length : Int)))
   : Option Bool).bind fun t19 =>
  if t19 = true then
   some (.inr false)
  else
   ck (inR (i14 + 1)) <|
   law06_few_l1 a_0 m (i14 + 1)
 else
  some (.inl ())

def law06_few (n : Nat) (a_0 : TAddress) : Option Bool :=
 (
   if 40 < (a_0.fModule.length : Int) then
    some true
   else
    if 5000 < (a_0.fType.length : Int) then
     some true
    else
     if 5000 < (a_0.fName.length : Int) then
      some true
     else
      some (decide (5000 < (a_0.fKey.fStr.length : Int)))
  : Option Bool).bind fun t4 =>
 if t4 = true then
  some false
 else
  jn (law06_few_l1 a_0 n 0) fun q24 =>
  some true

set_option maxHeartbeats 4000000 in
theorem law06_few_ok (n : Nat) (a_0 : TAddress) (r : Bool) (h0 : law06_few n a_0 = some r) : PCalls Tryz.prog 7 [.agg (TAddress.cs a_0)] (· = .p (eB r)) := by
 unfold law06_few at h0
 refine pbodyA good Tryz.func7 rfl rfl rfl fun w0 => mP (fun v : Bool => .p (eB v)) ?_
 refine nx 7 rfl (bd h0 fun o26 h1 h0 => ?_)
 refine kN o26 (fun v27 => ⟨[(1, .ptr 1 0), (26, .p (eB v27))], [(1, (TAddress.cs a_0).map .p)]⟩) ?_ ?_
 ·refine nx 1 rfl (fB [26] h0 rfl (fun c5 h0 => ?_) fun c5 h0 => ?_)
  ·exact nx 6 rfl (mQ (oi h0) rfl (sr))
  refine nx 8 rfl ?_
  obtain ⟨o28, h1, hL0, hR0⟩ := jn_cut h0
  refine kEx 0 (fun v29 : Unit => o28 = .inl v29) (fun v29 => ⟨[], []⟩) (fun v29 hv => ?_) ?_
  ·have h0 := hL0 _ hv
   exact nx 6 rfl (mQ (oi h0) rfl (sr))
  refine lG (fun (q30 : Int) => ⟨[(1, .ptr 1 0), (3, .p (eI q30))], [(1, (TAddress.cs a_0).map .p)]⟩) (fun m (q30 : Int) => law06_few_l1 a_0 m q30) (fun _ => rfl) 0 h1 (gE rfl rfl) ?_
  rintro m i14 h1
  replace h1 : law06_few_l1 a_0 (m + 1) i14 = some o28 := h1
  rw [law06_few_l1] at h1
  refine nx 6 rfl (oLl (f := eTModuleStep) rfl rfl ?_)
  refine nx 2 rfl (fD [31] h1 rfl (fun c15 h1 => ?_) fun c15 h1 => ?_)
  ·refine nx 5 rfl (bd h1 fun o31 h2 h1 => ?_)
   refine kN o31 (fun v32 => ⟨[(1, .ptr 1 0), (3, .p (eI i14)), (52, .p (eB v32))], [(1, (TAddress.cs a_0).map .p)]⟩) ?_ ?_
   ·refine nx 1 rfl (fB [52] h1 rfl (fun c20 h1 => ?_) fun c20 h1 => ?_)
    ·exact nx 6 rfl (mQ (hR0 _ (oi h1).symm) rfl (sr))
    refine nx 4 rfl (oA h1 rfl rfl fun hk21 h1 => ?_)
    exact nx 2 rfl (eX (i14 + 1) h1 (gE rfl rfl))
   refine nx 4 rfl (oE h2 TModuleStep.cells_eq rfl rfl (fun _ => rfl) fun hk16 h2 => ?_)
   refine nx 2 rfl (oLs rfl ?_)
   refine nx 2 rfl (fD [41, 42] h2 rfl (fun c17 h2 => ?_) fun c17 h2 => ?_)
   ·exact nx 11 rfl (eX _ (oi h2).symm (gE rfl rfl))
   refine nx 3 rfl (oE h2 TModuleStep.cells_eq rfl rfl (fun _ => rfl) fun hk18 h2 => ?_)
   refine nx 3 rfl (oLs rfl ?_)
   exact nx 3 rfl (eX _ (oi h2).symm (gE rfl rfl))
  exact nx 2 rfl (eXi _ (oi h1).symm (gE rfl rfl))
 refine nx 3 rfl (oLl (f := eTModuleStep) rfl rfl ?_)
 refine nx 2 rfl (fD [7, 8] h1 rfl (fun c1 h1 => ?_) fun c1 h1 => ?_)
 ·exact nx 19 rfl (eX _ (oi h1).symm (gE rfl rfl))
 refine nx 2 rfl (oLs rfl ?_)
 refine nx 3 rfl (fD [12, 13, 14] h1 rfl (fun c2 h1 => ?_) fun c2 h1 => ?_)
 ·exact nx 13 rfl (eX _ (oi h1).symm (gE rfl rfl))
 refine nx 2 rfl (oLs rfl ?_)
 refine nx 3 rfl (fD [18, 19, 20] h1 rfl (fun c3 h1 => ?_) fun c3 h1 => ?_)
 ·exact nx 7 rfl (eX _ (oi h1).symm (gE rfl rfl))
 refine nx 3 rfl (oLs rfl ?_)
 exact nx 3 rfl (eX _ (oi h1).symm (gE rfl rfl))

end Go.Ab.R06
