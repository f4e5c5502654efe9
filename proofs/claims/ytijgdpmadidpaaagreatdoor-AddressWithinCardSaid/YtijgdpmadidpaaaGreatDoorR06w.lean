/- Chapter 06. -/
import Derived.Test.YtijgdpmadidpaaaGreatDoorR06p
set_option linter.unusedVariables false
set_option linter.unusedSimpArgs false
set_option linter.unnecessarySimpa false
namespace Go.Ab.R06
open Go.Proofs Go.Ab Go.Ab.RB
attribute [local irreducible] awp rwpL OpOk PCalls OCalls AV.sub M Ghost

def ref06_ParsePlace (n : Nat) (s_0 : Bytes) : Option (TPlace × Bool) :=
 (ref06_place n s_0).bind fun r1 =>
 (
   if (!r1.2) = true then
    some true
   else
    some (decide (16 < (r1.1.fAddr.fModule.length : Int)))
  : Option Bool).bind fun t4 =>
 if t4 = true then
  some ((TPlace.mk (TAddress.mk [] false ([] : Bytes) ([] : Bytes) (TKey.mk 0 0 ([] : Bytes))) false), false)
 else
  some (r1.1, true)

set_option maxHeartbeats 4000000 in
theorem ref06_ParsePlace_ok (n : Nat) (s_0 : Bytes) (r : TPlace × Bool) (h0 : ref06_ParsePlace n s_0 = some r) : PCalls Tryz.prog 49 [eS s_0] (· = .tuple [.p (.agg (TPlace.cs r.1)), .p (eB r.2)]) := by
 unfold ref06_ParsePlace at h0
 refine pbodyA good Tryz.func49 rfl rfl rfl fun w0 => mP (fun v : TPlace × Bool => .tuple [.p (.agg (TPlace.cs v.1)), .p (eB v.2)]) ?_
 refine nx 8 rfl (bd h0 fun r1 e2 h0 => ?_)
 refine oK (ref06_place_ok _ s_0 _ e2) rfl ⟨sr, trivial⟩ Tryz.call43 rfl (nx 9 rfl ?_)
 refine bd h0 fun o7 h1 h0 => kN o7 (fun v8 => ⟨[(2, .ptr 2 0), (4, .ptr 4 0), (19, .p (eB v8))], [(2, [.p (.val (.slice none 0 0)), .p (eB false), .p (eS ([] : Bytes)), .p (eS ([] : Bytes)), .p (eI 0), .p (eI 0), .p (eS ([] : Bytes)), .p (eB false)]), (4, [.p (eL eTModuleStep r1.1.fAddr.fModule), .p (eB r1.1.fAddr.fData), .p (eS r1.1.fAddr.fType), .p (eS r1.1.fAddr.fName), .p (eI r1.1.fAddr.fKey.fKind), .p (eI r1.1.fAddr.fKey.fNum), .p (eS r1.1.fAddr.fKey.fStr), .p (eB r1.1.fWhole)])]⟩) ?_ ?_
 ·refine nx 1 rfl (fB [19] h0 rfl (fun c5 h0 => ?_) fun c5 h0 => ?_)
  ·exact nx 8 rfl (mQ (oi h0) rfl (sub_tuple ⟨sub_cells ⟨.inr ⟨rfl, rfl⟩, .inl rfl, .inl rfl, .inl rfl, .inl rfl, .inl rfl, .inl rfl, .inl rfl, trivial⟩, sr, trivial⟩))
  exact nx 9 rfl (mQ (oi h0) rfl (sub_tuple ⟨sr, sr, trivial⟩))
 refine nx 4 rfl (fB [12, 13] h1 rfl (fun c3 h1 => ?_) fun c3 h1 => ?_)
 ·exact nx 7 rfl (eX _ (oi h1).symm (gE rfl rfl))
 refine nx 3 rfl (oLl (f := eTModuleStep) rfl rfl ?_)
 exact nx 3 rfl (eX _ (oi h1).symm (gE rfl rfl))

def ref06_matches (p_0 : TKey) (k_1 : TKey) : Option Bool :=
 (
   if p_0.fKind = 0 then
    some true
   else
    some (decide (p_0.fKind = k_1.fKind ∧ p_0.fNum = k_1.fNum ∧ p_0.fStr = k_1.fStr))
  : Option Bool).bind fun t2 =>
 some t2

set_option maxHeartbeats 4000000 in
theorem ref06_matches_ok (p_0 : TKey) (k_1 : TKey) (r : Bool) (h0 : ref06_matches p_0 k_1 = some r) : PCalls Tryz.prog 50 [.agg (TKey.cs p_0), .agg (TKey.cs k_1)] (· = .p (eB r)) := by
 unfold ref06_matches at h0
 refine pbodyA good Tryz.func50 rfl rfl rfl fun w0 => mP (fun v : Bool => .p (eB v)) ?_
 refine nx 7 rfl (bd h0 fun o4 h1 h0 => ?_)
 refine kN o4 (fun v5 => ⟨[(4, .p (eB v5))], []⟩) ?_ ?_
 ·exact nx 2 rfl (mQ (oi h0) rfl (sr))
 refine nx 5 rfl (fD [7, 8] h1 rfl (fun c1 h1 => ?_) fun c1 h1 => ?_)
 ·exact nx 6 rfl (eX _ (oi h1).symm (gE rfl rfl))
 refine nx 2 rfl (mO rfl (op_eqS (p_0.fKind = k_1.fKind ∧ p_0.fNum = k_1.fNum ∧ p_0.fStr = k_1.fStr) rfl rfl rfl rfl rfl rfl rfl (by kernel_rfl) rfl rfl (.inl ⟨rfl, rfl⟩) ?_))
 exact nx 3 rfl (eX _ (oi h1).symm (gE rfl rfl))

def ref06_Within_l1 (r1 : TAddress × Int) (r3 : TPlace × Bool) : Nat → Int → Option (Unit ⊕ Bool)
 | 0, _ => none
 | m + 1, i21 =>
 if i21 < (r3.1.fAddr.fModule.length : Int) then
  (
    ck ((0 : Int) ≤ i21 ∧ i21 < (r1.1.fModule.length : Int)) <|
    ck ((0 : Int) ≤ i21 ∧ i21 < (r3.1.fAddr.fModule.length : Int)) <|
    if (lat r1.1.fModule i21).fName = (lat r3.1.fAddr.fModule i21).fName then
     ck ((0 : Int) ≤ i21 ∧ i21 < (r3.1.fAddr.fModule.length : Int)) <|
     ck ((0 : Int) ≤ i21 ∧ i21 < (r1.1.fModule.length : Int)) <|
     (ref06_matches ((lat r3.1.fAddr.fModule i21).fKey) ((lat r1.1.fModule i21).fKey)).bind fun r28 =>
     some (!r28)
    else
     some true
   : Option Bool).bind fun t30 =>
  if t30 = true then
   some (.inr false)
  else
   ck (inR (i21 + 1)) <|
   ref06_Within_l1 r1 r3 m (i21 + 1)
 else
  some (.inl ())

def ref06_Within (n : Nat) (s_0 : Bytes) (prefix_1 : Bytes) : Option Bool :=
 (ref06_Parse n s_0).bind fun r1 =>
 (ref06_ParsePlace n prefix_1).bind fun r3 =>
 (
   if r1.2 = 0 then
    if (!r3.2) = true then
     some true
    else
     some (decide ((r1.1.fModule.length : Int) < (r3.1.fAddr.fModule.length : Int)))
   else
    some true
  : Option Bool).bind fun t7 =>
 if t7 = true then
  some false
 else
  jn (ref06_Within_l1 r1 r3 n 0) fun q43 =>
  if (!r3.1.fWhole) = true then
   some true
  else
   (
     if (r1.1.fModule.length : Int) = (r3.1.fAddr.fModule.length : Int) then
      if (r1.1.fData == r3.1.fAddr.fData) = true then
       if r1.1.fType = r3.1.fAddr.fType then
        if r1.1.fName = r3.1.fAddr.fName then
         (ref06_matches r3.1.fAddr.fKey r1.1.fKey).bind fun r39 =>
         some r39
        else
         some false
       else
        some false
      else
       some false
     else
      some false
    : Option Bool).bind fun t41 =>
   some t41

set_option maxHeartbeats 4000000 in
theorem ref06_Within_ok (n : Nat) (s_0 : Bytes) (prefix_1 : Bytes) (r : Bool) (h0 : ref06_Within n s_0 prefix_1 = some r) : PCalls Tryz.prog 21 [eS s_0, eS prefix_1] (· = .p (eB r)) := by
 unfold ref06_Within at h0
 refine pbodyA good Tryz.func21 rfl rfl rfl fun w0 => mP (fun v : Bool => .p (eB v)) ?_
 refine nx 7 rfl (bd h0 fun r1 e2 h0 => ?_)
 refine oK (ref06_Parse_ok _ s_0 _ e2) rfl ⟨sr, trivial⟩ Tryz.call16 rfl (nx 10 rfl ?_)
 refine bd h0 fun r3 e4 h0 => oK (ref06_ParsePlace_ok _ prefix_1 _ e4) rfl ⟨sr, trivial⟩ Tryz.call49 rfl (nx 9 rfl ?_)
 refine bd h0 fun o46 h1 h0 => kN o46 (fun v47 => ⟨[(5, .ptr 5 0), (7, .ptr 7 0), (35, .p (eB v47))], [(5, [.p (eL eTModuleStep r1.1.fModule), .p (eB r1.1.fData), .p (eS r1.1.fType), .p (eS r1.1.fName), .p (eI r1.1.fKey.fKind), .p (eI r1.1.fKey.fNum), .p (eS r1.1.fKey.fStr)]), (7, [.p (eL eTModuleStep r3.1.fAddr.fModule), .p (eB r3.1.fAddr.fData), .p (eS r3.1.fAddr.fType), .p (eS r3.1.fAddr.fName), .p (eI r3.1.fAddr.fKey.fKind), .p (eI r3.1.fAddr.fKey.fNum), .p (eS r3.1.fAddr.fKey.fStr), .p (eB r3.1.fWhole)])]⟩) ?_ ?_
 ·refine nx 1 rfl (fB [35] h0 rfl (fun c8 h0 => ?_) fun c8 h0 => ?_)
  ·exact nx 6 rfl (mQ (oi h0) rfl (sr))
  refine nx 8 rfl ?_
  obtain ⟨o48, h1, hL0, hR0⟩ := jn_cut h0
  refine kEx 0 (fun v49 : Unit => o48 = .inl v49) (fun v49 => ⟨[(5, .ptr 5 0), (7, .ptr 7 0)], [(5, [.p (eL eTModuleStep r1.1.fModule), .p (eB r1.1.fData), .p (eS r1.1.fType), .p (eS r1.1.fName), .p (eI r1.1.fKey.fKind), .p (eI r1.1.fKey.fNum), .p (eS r1.1.fKey.fStr)]), (7, [.p (eL eTModuleStep r3.1.fAddr.fModule), .p (eB r3.1.fAddr.fData), .p (eS r3.1.fAddr.fType), .p (eS r3.1.fAddr.fName), .p (eI r3.1.fAddr.fKey.fKind), .p (eI r3.1.fAddr.fKey.fNum), .p (eS r3.1.fAddr.fKey.fStr), .p (eB r3.1.fWhole)])]⟩) (fun v49 hv => ?_) ?_
  ·have h0 := hL0 _ hv
   refine nx 8 rfl (fB [77] h0 rfl (fun c34 h0 => ?_) fun c34 h0 => ?_)
   ·exact nx 6 rfl (mQ (oi h0) rfl (sr))
   refine nx 3 rfl (bd h0 fun o50 h1 h0 => ?_)
   refine kN o50 (fun v51 => ⟨[(4, .p (eB v51))], []⟩) ?_ ?_
   ·exact nx 2 rfl (mQ (oi h0) rfl (sr))
   refine nx 3 rfl (oLl (f := eTModuleStep) rfl rfl ?_)
   refine nx 3 rfl (oLl (f := eTModuleStep) rfl rfl ?_)
   refine nx 2 rfl (fD [85, 86] h1 rfl (fun c35 h1 => ?_) fun c35 h1 => ?_)
   ·refine nx 8 rfl (fB [92, 93, 94] h1 rfl (fun c36 h1 => ?_) fun c36 h1 => ?_)
    ·refine nx 5 rfl (oS rfl rfl ?_)
     refine nx 2 rfl (fD [100, 101, 102] h1 rfl (fun c37 h1 => ?_) fun c37 h1 => ?_)
     ·refine nx 5 rfl (oS rfl rfl ?_)
      refine nx 2 rfl (fD [108, 109, 110] h1 rfl (fun c38 h1 => ?_) fun c38 h1 => ?_)
      ·refine nx 5 rfl (bd h1 fun r39 e40 h1 => ?_)
       refine oK (ref06_matches_ok r3.1.fAddr.fKey r1.1.fKey _ e40) rfl ⟨sr, sr, trivial⟩ Tryz.call50 rfl (nx 3 rfl ?_)
       exact eX _ (oi h1).symm (gE rfl rfl)
      exact nx 9 rfl (eX _ (oi h1).symm (gE rfl rfl))
     exact nx 17 rfl (eX _ (oi h1).symm (gE rfl rfl))
    exact nx 25 rfl (eX _ (oi h1).symm (gE rfl rfl))
   exact nx 33 rfl (eX _ (oi h1).symm (gE rfl rfl))
  refine lG (fun (q52 : Int) => ⟨[(5, .ptr 5 0), (7, .ptr 7 0), (9, .p (eI q52))], [(5, [.p (eL eTModuleStep r1.1.fModule), .p (eB r1.1.fData), .p (eS r1.1.fType), .p (eS r1.1.fName), .p (eI r1.1.fKey.fKind), .p (eI r1.1.fKey.fNum), .p (eS r1.1.fKey.fStr)]), (7, [.p (eL eTModuleStep r3.1.fAddr.fModule), .p (eB r3.1.fAddr.fData), .p (eS r3.1.fAddr.fType), .p (eS r3.1.fAddr.fName), .p (eI r3.1.fAddr.fKey.fKind), .p (eI r3.1.fAddr.fKey.fNum), .p (eS r3.1.fAddr.fKey.fStr), .p (eB r3.1.fWhole)])]⟩) (fun m (q52 : Int) => ref06_Within_l1 r1 r3 m q52) (fun _ => rfl) 0 h1 (gE rfl rfl) ?_
  rintro m i21 h1
  replace h1 : ref06_Within_l1 r1 r3 (m + 1) i21 = some o48 := h1
  rw [ref06_Within_l1] at h1
  refine nx 7 rfl (oLl (f := eTModuleStep) rfl rfl ?_)
  refine nx 2 rfl (fD [41] h1 rfl (fun c22 h1 => ?_) fun c22 h1 => ?_)
  ·refine nx 5 rfl (bd h1 fun o53 h2 h1 => ?_)
   refine kN o53 (fun v54 => ⟨[(5, .ptr 5 0), (7, .ptr 7 0), (9, .p (eI i21)), (74, .p (eB v54))], [(5, [.p (eL eTModuleStep r1.1.fModule), .p (eB r1.1.fData), .p (eS r1.1.fType), .p (eS r1.1.fName), .p (eI r1.1.fKey.fKind), .p (eI r1.1.fKey.fNum), .p (eS r1.1.fKey.fStr)]), (7, [.p (eL eTModuleStep r3.1.fAddr.fModule), .p (eB r3.1.fAddr.fData), .p (eS r3.1.fAddr.fType), .p (eS r3.1.fAddr.fName), .p (eI r3.1.fAddr.fKey.fKind), .p (eI r3.1.fAddr.fKey.fNum), .p (eS r3.1.fAddr.fKey.fStr), .p (eB r3.1.fWhole)])]⟩) ?_ ?_
   ·refine nx 1 rfl (fB [74] h1 rfl (fun c31 h1 => ?_) fun c31 h1 => ?_)
    ·exact nx 6 rfl (mQ (hR0 _ (oi h1).symm) rfl (sr))
    refine nx 4 rfl (oA h1 rfl rfl fun hk32 h1 => ?_)
    exact nx 2 rfl (eX (i21 + 1) h1 (gE rfl rfl))
   refine cc' h2 fun hk23 h2 => cc' h2 fun hk24 h2 => fN (p := (lat r1.1.fModule i21).fName = (lat r3.1.fAddr.fModule i21).fName) [] h2 rfl (fun c25 h2 => ?_) fun c25 h2 => ?_
   ·refine cc' h2 fun hk26 h2 => cc' h2 fun hk27 h2 => bd h2 fun r28 e29 h2 => mD [(5, .ptr 5 0), (7, .ptr 7 0), (9, .p (eI i21))] rfl ⟨rfl, rfl, rfl, trivial⟩ rfl (dR 3 rfl ?_)
    refine dq (.rptr (TModuleStep.cs (lat r1.1.fModule i21))) [45,46] rfl (fun _ e _ q => one_op rfl (op_at (f := eTModuleStep) (l := r1.1.fModule) TModuleStep.cs rfl rfl rfl rfl rfl rfl (e _ _ rfl) rfl (e _ _ rfl) hk23 TModuleStep.cells_eq (fun _ => rfl) q)) rfl (dR 6 rfl ?_)
    refine dq (.rptr (TModuleStep.cs (lat r3.1.fAddr.fModule i21))) [52,53] rfl (fun _ e _ q => one_op rfl (op_at (f := eTModuleStep) (l := r3.1.fAddr.fModule) TModuleStep.cs rfl rfl rfl rfl rfl rfl (e _ _ rfl) rfl (e _ _ rfl) hk24 TModuleStep.cells_eq (fun _ => rfl) q)) rfl (dR 2 rfl ?_)
    refine dq (.p (eB (!decide ((lat r1.1.fModule i21).fName = (lat r3.1.fAddr.fModule i21).fName)))) [49,56] rfl (fun _ e _ q => one_op rfl (ok_cmpS rfl rfl rfl (e _ _ rfl) (e _ _ rfl) rfl q)) rfl (dL (nd_false c25) rfl ?_)
    refine dR 4 rfl (dq (.rptr (TModuleStep.cs (lat r3.1.fAddr.fModule i21))) [58,61,62] rfl (fun _ e _ q => one_yes (op_at (f := eTModuleStep) (l := r3.1.fAddr.fModule) TModuleStep.cs rfl rfl rfl rfl rfl rfl (e _ _ rfl) rfl (e _ _ rfl) hk26 TModuleStep.cells_eq (fun _ => rfl) q) rfl rfl (e _ _ rfl) (rfl)) rfl ?_)
    refine dR 5 rfl (dq (.rptr (TModuleStep.cs (lat r1.1.fModule i21))) [58,67,68] rfl (fun _ e _ q => one_yes (op_at (f := eTModuleStep) (l := r1.1.fModule) TModuleStep.cs rfl rfl rfl rfl rfl rfl (e _ _ rfl) rfl (e _ _ rfl) hk27 TModuleStep.cells_eq (fun _ => rfl) q) rfl rfl (e _ _ rfl) (rfl)) rfl ?_)
    refine dR 2 rfl (dq (.p (eB r28)) [58,65,71] rfl (fun _ e _ q => one_yes (ok_callP (ref06_matches_ok ((lat r3.1.fAddr.fModule i21).fKey) ((lat r1.1.fModule i21).fKey) _ e29) rfl rfl rfl (args_cons (e _ _ rfl) (args_cons (e _ _ rfl) args_nil)) ⟨sr, sr, trivial⟩ Tryz.call50 rfl q) rfl rfl (e _ _ rfl) (rfl)) rfl ?_)
    refine dR 2 rfl (dE rfl ?_)
    exact nx 1 rfl (eX _ (oi h2).symm (gE rfl rfl))
   refine mD [(5, .ptr 5 0), (7, .ptr 7 0), (9, .p (eI i21))] rfl ⟨rfl, rfl, rfl, trivial⟩ rfl (dR 3 rfl ?_)
   refine dq (.rptr (TModuleStep.cs (lat r1.1.fModule i21))) [45,46] rfl (fun _ e _ q => one_op rfl (op_at (f := eTModuleStep) (l := r1.1.fModule) TModuleStep.cs rfl rfl rfl rfl rfl rfl (e _ _ rfl) rfl (e _ _ rfl) hk23 TModuleStep.cells_eq (fun _ => rfl) q)) rfl (dR 6 rfl ?_)
   refine dq (.rptr (TModuleStep.cs (lat r3.1.fAddr.fModule i21))) [52,53] rfl (fun _ e _ q => one_op rfl (op_at (f := eTModuleStep) (l := r3.1.fAddr.fModule) TModuleStep.cs rfl rfl rfl rfl rfl rfl (e _ _ rfl) rfl (e _ _ rfl) hk24 TModuleStep.cells_eq (fun _ => rfl) q)) rfl (dR 2 rfl ?_)
   refine dq (.p (eB (!decide ((lat r1.1.fModule i21).fName = (lat r3.1.fAddr.fModule i21).fName)))) [49,56] rfl (fun _ e _ q => one_op rfl (ok_cmpS rfl rfl rfl (e _ _ rfl) (e _ _ rfl) rfl q)) rfl (dL (nd_true c25) rfl ?_)
   refine dR 16 rfl (dE rfl ?_)
   exact nx 1 rfl (eX _ (oi h2).symm (gE rfl rfl))
  exact nx 2 rfl (eXi _ (oi h1).symm (gE rfl rfl))
 refine nx 4 rfl (fN [21, 22] h1 rfl (fun c5 h1 => ?_) fun c5 h1 => ?_)
 ·refine nx 4 rfl (fB [24, 25, 26] h1 rfl (fun c6 h1 => ?_) fun c6 h1 => ?_)
  ·exact nx 10 rfl (eX _ (oi h1).symm (gE rfl rfl))
  refine nx 2 rfl (oLl (f := eTModuleStep) rfl rfl ?_)
  refine nx 3 rfl (oLl (f := eTModuleStep) rfl rfl ?_)
  exact nx 3 rfl (eX _ (oi h1).symm (gE rfl rfl))
 exact nx 14 rfl (eX _ (oi h1).symm (gE rfl rfl))

def law06_AddressWithin (n : Nat) (s_0 : Bytes) (prefix_1 : Bytes) : Option Bool :=
 (
   if 3000 < (s_0.length : Int) then
    some true
   else
    some (decide (3000 < (prefix_1.length : Int)))
  : Option Bool).bind fun t2 =>
 if t2 = true then
  (law06_awake n).bind fun r4 =>
  some r4
 else
  (
    (address_Within n s_0 prefix_1).bind fun r6 =>
    (ref06_Within n s_0 prefix_1).bind fun r8 =>
    if (r6 == r8) = true then
     (law06_awake n).bind fun r11 =>
     some r11
    else
     some false
   : Option Bool).bind fun t13 =>
  some t13

set_option maxHeartbeats 4000000 in
theorem law06_AddressWithin_ok (n : Nat) (s_0 : Bytes) (prefix_1 : Bytes) (r : Bool) (h0 : law06_AddressWithin n s_0 prefix_1 = some r) : PCalls Tryz.prog 5 [eS s_0, eS prefix_1] (· = .p (eB r)) := by
 unfold law06_AddressWithin at h0
 refine pbodyA good Tryz.func5 rfl rfl rfl fun w0 => mP (fun v : Bool => .p (eB v)) ?_
 refine nx 6 rfl (bd h0 fun o16 h1 h0 => ?_)
 refine kN o16 (fun v17 => ⟨[(0, .p (eS s_0)), (1, .p (eS prefix_1)), (12, .p (eB v17))], []⟩) ?_ ?_
 ·refine nx 1 rfl (fB [12] h0 rfl (fun c3 h0 => ?_) fun c3 h0 => ?_)
  ·refine nx 3 rfl (bd h0 fun r4 e5 h0 => ?_)
   refine oK (law06_awake_ok _  _ e5) rfl trivial Tryz.call8 rfl (nx 3 rfl ?_)
   exact mQ (oi h0) rfl (sr)
  refine nx 3 rfl (bd h0 fun o18 h1 h0 => ?_)
  refine kN o18 (fun v19 => ⟨[(4, .p (eB v19))], []⟩) ?_ ?_
  ·exact nx 2 rfl (mQ (oi h0) rfl (sr))
  refine nx 3 rfl (bd h1 fun r6 e7 h1 => ?_)
  refine oK (address_Within_ok _ s_0 prefix_1 _ e7) rfl ⟨sr, sr, trivial⟩ Tryz.call20 rfl (nx 2 rfl ?_)
  refine bd h1 fun r8 e9 h1 => oK (ref06_Within_ok _ s_0 prefix_1 _ e9) rfl ⟨sr, sr, trivial⟩ Tryz.call21 rfl (nx 2 rfl ?_)
  refine fB [20, 21] h1 rfl (fun c10 h1 => ?_) fun c10 h1 => ?_
  ·refine bd h1 fun r11 e12 h1 => oK (law06_awake_ok _  _ e12) rfl trivial Tryz.call8 rfl (nx 3 rfl ?_)
   exact eX _ (oi h1).symm (gE rfl rfl)
  exact nx 4 rfl (eX _ (oi h1).symm (gE rfl rfl))
 refine nx 2 rfl (oLs rfl ?_)
 refine nx 2 rfl (fD [7, 8] h1 rfl (fun c1 h1 => ?_) fun c1 h1 => ?_)
 ·exact nx 5 rfl (eX _ (oi h1).symm (gE rfl rfl))
 refine nx 1 rfl (oLs rfl ?_)
 exact nx 3 rfl (eX _ (oi h1).symm (gE rfl rfl))

end Go.Ab.R06
