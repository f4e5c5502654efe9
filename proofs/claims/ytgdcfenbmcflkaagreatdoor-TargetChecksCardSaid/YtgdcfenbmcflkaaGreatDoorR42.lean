/- Chapter 42. -/
import Derived.Test.YtgdcfenbmcflkaaGreatDoorR27
set_option linter.unusedVariables false
set_option linter.unusedSimpArgs false
set_option linter.unnecessarySimpa false
namespace Go.Ab.R06
open Go.Proofs Go.Ab Go.Ab.RB
attribute [local irreducible] awp rwpL OpOk PCalls OCalls AV.sub M Ghost

def target_Check_l1 (targets_0 : List Bytes) : Nat → Int → Option (Unit ⊕ Int)
 | 0, _ => none
 | m + 1, t8 =>
 if t8 < (targets_0.length : Int) then
  ck ((0 : Int) ≤ t8 ∧ t8 < (targets_0.length : Int)) <|
  ck ((lat targets_0 t8).length ≤ 65536) <|
  if Glob.check (lat targets_0 t8) = 0 then
   ck (inR (t8 + 1)) <|
   target_Check_l1 targets_0 m (t8 + 1)
  else
   some (.inr (Glob.check (lat targets_0 t8)))
 else
  some (.inl ())

def target_Check (n : Nat) (targets_0 : List Bytes) : Option Int :=
 if 64 < (targets_0.length : Int) then
  some 14
 else
  jn (target_Check_l1 targets_0 n 0) fun q15 =>
  some 0

set_option maxHeartbeats 4000000 in
theorem target_Check_ok (n : Nat) (targets_0 : List Bytes) (r : Int) (h0 : target_Check n targets_0 = some r) : PCalls Tryz.prog 11 [eL eS targets_0] (· = .p (eI r)) := by
 unfold target_Check at h0
 refine pbodyA good Tryz.func11 rfl rfl rfl fun w0 => mP (fun v : Int => .p (eI v)) ?_
 refine nx 8 rfl (oLl (f := eS) rfl rfl ?_)
 refine nx 2 rfl (fD [8] h0 rfl (fun c1 h0 => ?_) fun c1 h0 => ?_)
 ·exact nx 6 rfl (mQ (oi h0) rfl (sr))
 refine nx 6 rfl (oLl (f := eS) rfl rfl ?_)
 refine nx 3 rfl ?_
 obtain ⟨o16, h1, hL0, hR0⟩ := jn_cut h0
 refine kEx 0 (fun v17 : Unit => o16 = .inl v17) (fun v17 => ⟨[], []⟩) (fun v17 hv => ?_) ?_
 ·have h0 := hL0 _ hv
  exact nx 6 rfl (mQ (oi h0) rfl (sr))
 refine lG (fun (q18 : Int) => ⟨[(9, .p (eL eS targets_0)), (10, .p (eI (targets_0.length : Int))), (11, .p (eI q18))], []⟩) (fun m (q18 : Int) => target_Check_l1 targets_0 m q18) (fun _ => rfl) 0 h1 (gE rfl rfl) ?_
 rintro m t8 h1
 replace h1 : target_Check_l1 targets_0 (m + 1) t8 = some o16 := h1
 rw [target_Check_l1] at h1
 refine nx 5 rfl (fD [12] h1 rfl (fun c9 h1 => ?_) fun c9 h1 => ?_)
 ·refine nx 6 rfl (oE h1 (fun _ => rfl) rfl rfl (fun _ => rfl) fun hk10 h1 => ?_)
  refine nx 6 rfl (cc' h1 fun hk11 h1 => ?_)
  refine oK (Glob.check_ok (lat targets_0 t8) hk11) rfl ⟨sr, trivial⟩ Tryz.call28 rfl (nx 7 rfl ?_)
  refine fN [18] h1 rfl (fun c12 h1 => ?_) fun c12 h1 => ?_
  ·refine nx 3 rfl (oA h1 rfl rfl fun hk13 h1 => ?_)
   exact nx 2 rfl (eX (t8 + 1) h1 (gE rfl rfl))
  exact nx 7 rfl (mQ (hR0 _ (oi h1).symm) rfl (sr))
 exact nx 2 rfl (eXi _ (oi h1).symm (gE rfl rfl))

def target_Selected (n : Nat) (targets_0 : List Bytes) (addr_1 : Bytes) : Option Bool :=
 (
   if (targets_0.length : Int) = 0 then
    some true
   else
    (glob_Any n targets_0 addr_1).bind fun r2 =>
    some r2
  : Option Bool).bind fun t4 =>
 if t4 = true then
  some true
 else
  (address_Static n addr_1).bind fun r6 =>
  (
    if r6.2 = 0 then
     (glob_Any n targets_0 r6.1).bind fun r9 =>
     some r9
    else
     some false
   : Option Bool).bind fun t11 =>
  some t11

set_option maxHeartbeats 4000000 in
theorem target_Selected_ok (n : Nat) (targets_0 : List Bytes) (addr_1 : Bytes) (r : Bool) (h0 : target_Selected n targets_0 addr_1 = some r) : PCalls Tryz.prog 15 [eL eS targets_0, eS addr_1] (· = .p (eB r)) := by
 unfold target_Selected at h0
 refine pbodyA good Tryz.func15 rfl rfl rfl fun w0 => mP (fun v : Bool => .p (eB v)) ?_
 refine nx 6 rfl (bd h0 fun o14 h1 h0 => ?_)
 refine kN o14 (fun v15 => ⟨[(0, .p (eL eS targets_0)), (1, .p (eS addr_1)), (14, .p (eB v15))], []⟩) ?_ ?_
 ·refine nx 1 rfl (fB [14] h0 rfl (fun c5 h0 => ?_) fun c5 h0 => ?_)
  ·exact nx 6 rfl (mQ (oi h0) rfl (sr))
  refine nx 5 rfl (bd h0 fun r6 e7 h0 => ?_)
  refine oK (address_Static_ok _ addr_1 _ e7) rfl ⟨sr, trivial⟩ Tryz.call32 rfl (nx 7 rfl ?_)
  refine bd h0 fun o16 h1 h0 => kN o16 (fun v17 => ⟨[(4, .p (eB v17))], []⟩) ?_ ?_
  ·exact nx 2 rfl (mQ (oi h0) rfl (sr))
  refine nx 4 rfl (fD [21, 22] h1 rfl (fun c8 h1 => ?_) fun c8 h1 => ?_)
  ·refine nx 2 rfl (bd h1 fun r9 e10 h1 => ?_)
   refine oK (glob_Any_ok _ targets_0 r6.1 _ e10) rfl ⟨sr, sr, trivial⟩ Tryz.call31 rfl (nx 3 rfl ?_)
   exact eX _ (oi h1).symm (gE rfl rfl)
  exact nx 6 rfl (eX _ (oi h1).symm (gE rfl rfl))
 refine nx 2 rfl (oLl (f := eS) rfl rfl ?_)
 refine nx 2 rfl (fD [9, 10] h1 rfl (fun c1 h1 => ?_) fun c1 h1 => ?_)
 ·exact nx 5 rfl (eX _ (oi h1).symm (gE rfl rfl))
 refine nx 2 rfl (bd h1 fun r2 e3 h1 => ?_)
 refine oK (glob_Any_ok _ targets_0 addr_1 _ e3) rfl ⟨sr, sr, trivial⟩ Tryz.call31 rfl (nx 2 rfl ?_)
 exact eX _ (oi h1).symm (gE rfl rfl)

def target_chooser_choose (x_0 : Tchooser) (i_1 : Int) : Option Tchooser :=
 ck ((0 : Int) ≤ i_1 ∧ i_1 < (x_0.fchosen.length : Int)) <|
 if (!(lat x_0.fchosen i_1)) = true then
  ck ((0 : Int) ≤ i_1 ∧ i_1 < (x_0.fchosen.length : Int)) <|
  ck ((x_0.ftodo.length + [i_1].length) * 8 ≤ 140737488355328) <|
  some (Tchooser.mk x_0.fchanges x_0.fresources (x_0.fchosen.set i_1.toNat true) (x_0.ftodo ++ [i_1]))
 else
  some x_0

set_option maxHeartbeats 4000000 in
theorem target_chooser_choose_ok (x_0 : Tchooser) (i_1 : Int) (r : Tchooser) (h0 : target_chooser_choose x_0 i_1 = some r) : OCalls Tryz.prog 39 [.ptr 1000000 0, .p (eI i_1)] [(1000000, [.p (eL eTChange x_0.fchanges), .arr 1000001 1 0 x_0.fresources.length, .arr 1000002 1 0 x_0.fchosen.length, .stk 900000 1 (x_0.ftodo.map eI)]), (1000001, (x_0.fresources.map eS).map .p), (1000002, (x_0.fchosen.map eB).map .p)] (fun x y => x = .tuple [] ∧ y = [(1000000, [.p (eL eTChange r.fchanges), .arr 1000001 1 0 r.fresources.length, .arr 1000002 1 0 r.fchosen.length, .stk 2000000 1 (r.ftodo.map eI)]), (1000001, (r.fresources.map eS).map .p), (1000002, (r.fchosen.map eB).map .p)]) := by
 unfold target_chooser_choose at h0
 refine obodyG good [800000] [1000000, 1000001, 1000002] Tryz.func39 rfl rfl rfl rfl rfl fun w0 F => mPo (fun v : Tchooser => .tuple []) (fun v => [(1000000, [.p (eL eTChange v.fchanges), .arr 1000001 1 0 v.fresources.length, .arr 1000002 1 0 v.fchosen.length, .stk 2000000 1 (v.ftodo.map eI)]), (1000001, (v.fresources.map eS).map .p), (1000002, (v.fchosen.map eB).map .p)]) ?_
 refine nx 7 rfl (cc' h0 fun hk1 h0 => ?_)
 refine mO rfl (ok_indexAddrA1 rfl rfl rfl rfl rfl rfl rfl rfl rfl hk1 ?_)
 refine mO rfl (ok_loadM (default : Bool) (f := eB) (l := x_0.fchosen) rfl rfl rfl rfl rfl rfl rfl (by have := hk1; omega) ?_)
 refine nx 2 rfl (fB [11] h0 rfl (fun c2 h0 => ?_) fun c2 h0 => ?_)
 ·refine nx 8 rfl (cc' h0 fun hk3 h0 => ?_)
  refine mO rfl (ok_indexAddrA1 rfl rfl rfl rfl rfl rfl rfl rfl rfl hk3 ?_)
  refine mO rfl (ok_storeM (f := eB) (l := x_0.fchosen) (b := true) rfl rfl rfl rfl rfl rfl rfl rfl (by have := hk3; omega) ?_)
  refine nx 8 rfl (mO rfl (op_bslice eI [i_1] rfl rfl rfl rfl rfl rfl rfl rfl rfl rfl rfl rfl rfl rfl ?_))
  refine cc' h0 fun hk4 h0 => ?_
  skip; refine mO rfl (op_appSk eI (fun _ => ⟨rfl, rfl⟩) x_0.ftodo [i_1] rfl rfl rfl rfl rfl rfl rfl rfl rfl rfl rfl rfl (Nat.zero_lt_succ _) rfl rfl rfl hk4 rfl (by repeat (first | exact rfl | apply dmO_row rfl | apply dmO_drop rfl | apply dmO_one rfl rfl)) ?_)
  refine nx 4 rfl ?_
  skip; refine mG (ghost_ren 900000 800000 rfl rfl rfl rfl (by repeat (first | exact rfl | exact mapA_go_p _ | apply mapO_cons))) ?_
  exact mQon (oi h0) (ghost_refl _) rfl rfl rfl (mapO_cons rfl rfl (mapO_cons rfl (mapA_go_p _) (mapO_cons rfl (mapA_go_p _) rfl))) (sr) ⟨⟨_, rfl, ⟨sr, sr, AV.sub_of_eq (by first | rfl | (simp; done) | (simp [AV.dem]; rfl)), sr, trivial⟩⟩, ⟨_, rfl, subL_refl _⟩, ⟨_, rfl, subL_refl _⟩, trivial⟩
 refine nx 2 rfl ?_
 skip; refine mG (ghost_ren 900000 800000 rfl rfl rfl rfl (by repeat (first | exact rfl | exact mapA_go_p _ | apply mapO_cons))) ?_
 exact mQon (oi h0) (ghost_refl _) rfl rfl rfl (mapO_cons rfl rfl (mapO_cons rfl (mapA_go_p _) (mapO_cons rfl (mapA_go_p _) rfl))) (sr) ⟨⟨_, rfl, ⟨sr, sr, sr, sr, trivial⟩⟩, ⟨_, rfl, subL_refl _⟩, ⟨_, rfl, subL_refl _⟩, trivial⟩

def slices_Index_string_string_l1 (s_0 : List Bytes) (v_1 : Bytes) : Nat → Int → Option (Unit ⊕ Int)
 | 0, _ => none
 | m + 1, t6 =>
 if t6 < (s_0.length : Int) then
  ck ((0 : Int) ≤ t6 ∧ t6 < (s_0.length : Int)) <|
  if v_1 = lat s_0 t6 then
   some (.inr t6)
  else
   ck (inR (t6 + 1)) <|
   slices_Index_string_string_l1 s_0 v_1 m (t6 + 1)
 else
  some (.inl ())

def slices_Index_string_string (n : Nat) (s_0 : List Bytes) (v_1 : Bytes) : Option Int :=
 jn (slices_Index_string_string_l1 s_0 v_1 n 0) fun q12 =>
 some (-1)

set_option maxHeartbeats 4000000 in
theorem slices_Index_string_string_ok (n : Nat) (s_0 : List Bytes) (v_1 : Bytes) (r : Int) (h0 : slices_Index_string_string n s_0 v_1 = some r) : PCalls Tryz.prog 89 [eL eS s_0, eS v_1] (· = .p (eI r)) := by
 unfold slices_Index_string_string at h0
 refine pbodyA good Tryz.func89 rfl rfl rfl fun w0 => mP (fun v : Int => .p (eI v)) ?_
 refine nx 8 rfl (oLl (f := eS) rfl rfl ?_)
 refine nx 3 rfl ?_
 obtain ⟨o13, h1, hL0, hR0⟩ := jn_cut h0
 refine kEx 0 (fun v14 : Unit => o13 = .inl v14) (fun v14 => ⟨[], []⟩) (fun v14 hv => ?_) ?_
 ·have h0 := hL0 _ hv
  exact nx 6 rfl (mQ (oi h0) rfl (sr))
 refine lG (fun (q15 : Int) => ⟨[(0, .p (eL eS s_0)), (1, .p (eS v_1)), (7, .p (eI (s_0.length : Int))), (8, .p (eI q15))], []⟩) (fun m (q15 : Int) => slices_Index_string_string_l1 s_0 v_1 m q15) (fun _ => rfl) 0 h1 (gE rfl rfl) ?_
 rintro m t6 h1
 replace h1 : slices_Index_string_string_l1 s_0 v_1 (m + 1) t6 = some o13 := h1
 rw [slices_Index_string_string_l1] at h1
 refine nx 5 rfl (fD [9] h1 rfl (fun c7 h1 => ?_) fun c7 h1 => ?_)
 ·refine nx 14 rfl (oE h1 (fun _ => rfl) rfl rfl (fun _ => rfl) fun hk8 h1 => ?_)
  refine nx 1 rfl (oS rfl rfl ?_)
  refine nx 1 rfl (fD [16] h1 rfl (fun c9 h1 => ?_) fun c9 h1 => ?_)
  ·exact nx 7 rfl (mQ (hR0 _ (oi h1).symm) rfl (sr))
  refine nx 3 rfl (oA h1 rfl rfl fun hk10 h1 => ?_)
  exact nx 2 rfl (eX (t6 + 1) h1 (gE rfl rfl))
 exact nx 2 rfl (eXi _ (oi h1).symm (gE rfl rfl))

def slices_Contains_string_string (n : Nat) (s_0 : List Bytes) (v_1 : Bytes) : Option Bool :=
 (slices_Index_string_string n s_0 v_1).bind fun r1 =>
 some (decide (0 ≤ r1))

set_option maxHeartbeats 4000000 in
theorem slices_Contains_string_string_ok (n : Nat) (s_0 : List Bytes) (v_1 : Bytes) (r : Bool) (h0 : slices_Contains_string_string n s_0 v_1 = some r) : PCalls Tryz.prog 62 [eL eS s_0, eS v_1] (· = .p (eB r)) := by
 unfold slices_Contains_string_string at h0
 refine pbodyA good Tryz.func62 rfl rfl rfl fun w0 => mP (fun v : Bool => .p (eB v)) ?_
 refine nx 8 rfl (bd h0 fun r1 e2 h0 => ?_)
 refine oK (slices_Index_string_string_ok _ s_0 v_1 _ e2) rfl ⟨sr, sr, trivial⟩ Tryz.call89 rfl (nx 4 rfl ?_)
 exact mQ (oi h0) rfl (sr)

def target_removes (c_0 : TChange) : Option Bool :=
 (
   if c_0.fAction = 4 then
    some true
   else
    some (decide (c_0.fAction = 3))
  : Option Bool).bind fun t2 =>
 some t2

set_option maxHeartbeats 4000000 in
theorem target_removes_ok (c_0 : TChange) (r : Bool) (h0 : target_removes c_0 = some r) : PCalls Tryz.prog 63 [.agg (TChange.cs c_0)] (· = .p (eB r)) := by
 unfold target_removes at h0
 refine pbodyA good Tryz.func63 rfl rfl rfl fun w0 => mP (fun v : Bool => .p (eB v)) ?_
 refine nx 6 rfl (bd h0 fun o4 h1 h0 => ?_)
 refine kN o4 (fun v5 => ⟨[(2, .p (eB v5))], []⟩) ?_ ?_
 ·exact nx 2 rfl (mQ (oi h0) rfl (sr))
 refine nx 5 rfl (fD [5, 6] h1 rfl (fun c1 h1 => ?_) fun c1 h1 => ?_)
 ·exact nx 6 rfl (eX _ (oi h1).symm (gE rfl rfl))
 exact nx 6 rfl (eX _ (oi h1).symm (gE rfl rfl))

def target_chooser_follow_l1 (n : Nat) (x_0 : Tchooser) (i_1 : Int) : Nat → Int → (List TChange) → (List Int) → (List Bytes) → (List Bool) → Option ((List TChange) × (List Int) × (List Bytes) × (List Bool))
 | 0, _, _, _, _, _ => none
 | m + 1, t29, f30, f31, l32, l33 =>
 if t29 < (x_0.fchanges.length : Int) then
  (
    ck ((0 : Int) ≤ t29 ∧ t29 < (x_0.fchanges.length : Int)) <|
    (
      ck ((0 : Int) ≤ t29 ∧ t29 < (l32.length : Int)) <|
      (slices_Contains_string_string n ((lat x_0.fchanges i_1).fDeps) (lat l32 t29)).bind fun r37 =>
      if r37 = true then
       some true
      else
       (target_removes (lat x_0.fchanges i_1)).bind fun r40 =>
       if r40 = true then
        if (lat x_0.fchanges t29).fAction = 0 then
         some false
        else
         ck ((0 : Int) ≤ i_1 ∧ i_1 < (l32.length : Int)) <|
         (slices_Contains_string_string n ((lat x_0.fchanges t29).fOldDeps) (lat l32 i_1)).bind fun r45 =>
         some r45
       else
        some false
     : Option Bool).bind fun t47 =>
    if t47 = true then
     (target_chooser_choose (Tchooser.mk f30 l32 l33 f31) t29).bind fun r49 =>
     some (r49.fchanges, r49.ftodo, r49.fresources, r49.fchosen)
    else
     some (f30, f31, l32, l33)
   : Option ((List TChange) × (List Int) × (List Bytes) × (List Bool))).bind fun q66 =>
  ck (inR (t29 + 1)) <|
  target_chooser_follow_l1 n x_0 i_1 m (t29 + 1) q66.1 q66.2.1 q66.2.2.1 q66.2.2.2
 else
  some (f30, f31, l32, l33)

def target_chooser_follow (n : Nat) (x_0 : Tchooser) (i_1 : Int) : Option Tchooser :=
 ck ((0 : Int) ≤ i_1 ∧ i_1 < (x_0.fchanges.length : Int)) <|
 (target_chooser_follow_l1 n x_0 i_1 n 0 x_0.fchanges x_0.ftodo x_0.fresources x_0.fchosen).bind fun q65 =>
 some (Tchooser.mk q65.1 q65.2.2.1 q65.2.2.2 q65.2.1)

set_option maxHeartbeats 4000000 in
theorem target_chooser_follow_ok (n : Nat) (x_0 : Tchooser) (i_1 : Int) (r : Tchooser) (h0 : target_chooser_follow n x_0 i_1 = some r) : OCalls Tryz.prog 40 [.ptr 1000000 0, .p (eI i_1)] [(1000000, [.p (eL eTChange x_0.fchanges), .arr 1000001 1 0 x_0.fresources.length, .arr 1000002 1 0 x_0.fchosen.length, .stk 900000 1 (x_0.ftodo.map eI)]), (1000001, (x_0.fresources.map eS).map .p), (1000002, (x_0.fchosen.map eB).map .p)] (fun x y => x = .tuple [] ∧ y = [(1000000, [.p (eL eTChange r.fchanges), .arr 1000001 1 0 r.fresources.length, .arr 1000002 1 0 r.fchosen.length, .stk 2000000 1 (r.ftodo.map eI)]), (1000001, (r.fresources.map eS).map .p), (1000002, (r.fchosen.map eB).map .p)]) := by
 unfold target_chooser_follow at h0
 refine obodyG good [800000] [1000000, 1000001, 1000002] Tryz.func40 rfl rfl rfl rfl rfl fun w0 F => mPo (fun v : Tchooser => .tuple []) (fun v => [(1000000, [.p (eL eTChange v.fchanges), .arr 1000001 1 0 v.fresources.length, .arr 1000002 1 0 v.fchosen.length, .stk 2000000 1 (v.ftodo.map eI)]), (1000001, (v.fresources.map eS).map .p), (1000002, (v.fchosen.map eB).map .p)]) ?_
 refine nx 7 rfl (oE h0 TChange.cells_eq rfl rfl (fun _ => rfl) fun hk1 h0 => ?_)
 refine nx 1 rfl (mO rfl (ok_alloc rfl rfl rfl rfl rfl ?_))
 refine mG (ghost_obc (show demOb _ _ = _ from (by repeat (first | exact demOb_nil _ | apply demOb_drop rfl | apply demOb_keep rfl (demL_p _ _) | apply demOb_keep rfl rfl)))) (nx 8 rfl ?_)
 refine oLl (f := eTChange) rfl rfl (nx 3 rfl ?_)
 refine bd h0 fun o68 h1 h0 => kE 0 o68 (fun v69 => ⟨[], [(1000000, [.p (eL eTChange v69.1), .arr 1000001 1 0 v69.2.2.1.length, .arr 1000002 1 0 v69.2.2.2.length, .stk 900000 1 (v69.2.1.map eI)]), (1000001, (v69.2.2.1.map eS).map .p), (1000002, (v69.2.2.2.map eB).map .p)]⟩) ?_ ?_
 ·refine nx 1 rfl ?_
  skip; refine mG (ghost_ren 900000 800000 rfl rfl rfl rfl (by repeat (first | exact rfl | exact mapA_go_p _ | apply mapO_cons))) ?_
  exact mQon (oi h0) (ghost_refl _) rfl rfl rfl (mapO_cons rfl rfl (mapO_cons rfl (mapA_go_p _) (mapO_cons rfl (mapA_go_p _) rfl))) (sr) ⟨⟨_, rfl, ⟨sr, sr, sr, sr, trivial⟩⟩, ⟨_, rfl, subL_refl _⟩, ⟨_, rfl, subL_refl _⟩, trivial⟩
 refine lG (fun (q70 : Int × (List TChange) × (List Int) × (List Bytes) × (List Bool)) => ⟨[(0, .ptr 1000000 0), (1, .p (eI i_1)), (4, .ptr 4 0), (17, .p (eL eTChange x_0.fchanges)), (18, .p (eI (x_0.fchanges.length : Int))), (19, .p (eI q70.1))], [(4, (TChange.cs (lat x_0.fchanges i_1)).map .p), (1000000, [.p (eL eTChange q70.2.1), .arr 1000001 1 0 q70.2.2.2.1.length, .arr 1000002 1 0 q70.2.2.2.2.length, .stk 900000 1 (q70.2.2.1.map eI)]), (1000001, (q70.2.2.2.1.map eS).map .p), (1000002, (q70.2.2.2.2.map eB).map .p)]⟩) (fun m (q70 : Int × (List TChange) × (List Int) × (List Bytes) × (List Bool)) => target_chooser_follow_l1 n x_0 i_1 m q70.1 q70.2.1 q70.2.2.1 q70.2.2.2.1 q70.2.2.2.2) (fun _ => rfl) (0, x_0.fchanges, x_0.ftodo, x_0.fresources, x_0.fchosen) h1 (ghost_le (le_mk ⟨er rfl, er rfl, er rfl, er rfl, er rfl, er rfl, trivial⟩ ⟨⟨_, rfl, ⟨sr, sr, sr, sr, sr, sr, sr, sr, sr, sr, sr, sr, sr, sr, sr, sr, sr, sr, sr, sr, sr, sr, trivial⟩⟩, ⟨_, rfl, ⟨sr, AV.sub_of_eq (by first | rfl | (simp; done) | (simp [AV.dem]; rfl)), AV.sub_of_eq (by first | rfl | (simp; done) | (simp [AV.dem]; rfl)), sr, trivial⟩⟩, ⟨_, rfl, subL_refl _⟩, ⟨_, rfl, subL_refl _⟩, trivial⟩)) ?_
 rintro m ⟨t29, f30, f31, l32, l33⟩ h1
 replace h1 : target_chooser_follow_l1 n x_0 i_1 (m + 1) t29 f30 f31 l32 l33 = some o68 := h1
 rw [target_chooser_follow_l1] at h1
 refine nx 5 rfl (fD [20] h1 rfl (fun c34 h1 => ?_) fun c34 h1 => ?_)
 ·refine nx 3 rfl (bd h1 fun o71 h2 h1 => ?_)
  refine kN o71 (fun v72 => ⟨[(0, .ptr 1000000 0), (1, .p (eI i_1)), (4, .ptr 4 0), (17, .p (eL eTChange x_0.fchanges)), (18, .p (eI (x_0.fchanges.length : Int))), (19, .p (eI t29))], [(4, (TChange.cs (lat x_0.fchanges i_1)).map .p), (1000000, [.p (eL eTChange v72.1), .arr 1000001 1 0 v72.2.2.1.length, .arr 1000002 1 0 v72.2.2.2.length, .stk 900000 1 (v72.2.1.map eI)]), (1000001, (v72.2.2.1.map eS).map .p), (1000002, (v72.2.2.2.map eB).map .p)]⟩) ?_ ?_
  ·refine nx 2 rfl (oA h1 rfl rfl fun hk55 h1 => ?_)
   exact nx 2 rfl (eX (t29 + 1, o71.1, o71.2.1, o71.2.2.1, o71.2.2.2) h1 (ghost_le (le_mk ⟨er rfl, er rfl, er rfl, er rfl, er rfl, er rfl, trivial⟩ ⟨⟨_, rfl, ⟨sr, sr, sr, sr, sr, sr, sr, sr, sr, sr, sr, sr, sr, sr, sr, sr, sr, sr, sr, sr, sr, sr, trivial⟩⟩, ⟨_, rfl, ⟨sr, AV.sub_of_eq (by first | rfl | (simp; done) | (simp [AV.dem]; rfl)), AV.sub_of_eq (by first | rfl | (simp; done) | (simp [AV.dem]; rfl)), sr, trivial⟩⟩, ⟨_, rfl, subL_refl _⟩, ⟨_, rfl, subL_refl _⟩, trivial⟩)))
  refine nx 4 rfl (oE h2 TChange.cells_eq rfl rfl (fun _ => rfl) fun hk35 h2 => ?_)
  refine nx 1 rfl (mO rfl (ok_alloc rfl rfl rfl rfl rfl ?_))
  refine mG (ghost_obc (show demOb _ _ = _ from (by repeat (first | exact demOb_nil _ | apply demOb_drop rfl | apply demOb_keep rfl (demL_p _ _) | apply demOb_keep rfl rfl)))) (nx 4 rfl ?_)
  refine bd h2 fun o73 h3 h2 => kN o73 (fun v74 => ⟨[(0, .ptr 1000000 0), (1, .p (eI i_1)), (4, .ptr 4 0), (5, .p (eI t29)), (17, .p (eL eTChange x_0.fchanges)), (18, .p (eI (x_0.fchanges.length : Int))), (19, .p (eI t29)), (54, .p (eB v74))], [(4, (TChange.cs (lat x_0.fchanges i_1)).map .p), (1000000, [.p (eL eTChange f30), .arr 1000001 1 0 l32.length, .arr 1000002 1 0 l33.length, .stk 900000 1 (f31.map eI)]), (1000001, (l32.map eS).map .p), (1000002, (l33.map eB).map .p)]⟩) ?_ ?_
  ·refine nx 1 rfl (fB [54] h2 rfl (fun c48 h2 => ?_) fun c48 h2 => ?_)
   ·refine nx 4 rfl (bd h2 fun r49 e50 h2 => ?_)
    refine mO rfl (op_callV [1000000, 1000001, 1000002] [900000] 102000 102001 (target_chooser_choose_ok (Tchooser.mk f30 l32 l33 f31) t29 _ e50) rfl rfl rfl rfl rfl ⟨sr, sr, trivial⟩ rfl (mapO_cons rfl rfl (mapO_cons rfl (mapA_go_p _) (mapO_cons rfl (mapA_go_p _) rfl))) ⟨⟨_, rfl, ⟨sr, sr, sr, sr, trivial⟩⟩, ⟨_, rfl, subL_refl _⟩, ⟨_, rfl, subL_refl _⟩, trivial⟩ rfl rfl rfl rfl rfl rfl rfl rfl Tryz.call39 rfl (mapO_cons rfl rfl (mapO_cons rfl (mapA_go_p _) (mapO_cons rfl (mapA_go_p _) rfl))) ?_)
    refine nx 1 rfl ?_
    skip; refine mG (ghost_ren 102000 900000 rfl rfl rfl rfl (by repeat (first | exact rfl | exact mapA_go_p _ | apply mapO_cons))) ?_
    exact eX _ (oi h2).symm (ghost_le (le_mk ⟨er rfl, er rfl, er rfl, er rfl, er rfl, er rfl, trivial⟩ ⟨⟨_, rfl, ⟨sr, sr, sr, sr, sr, sr, sr, sr, sr, sr, sr, sr, sr, sr, sr, sr, sr, sr, sr, sr, sr, sr, trivial⟩⟩, ⟨_, rfl, ⟨sr, AV.sub_of_eq (by first | rfl | (simp; done) | (simp [AV.dem]; rfl)), AV.sub_of_eq (by first | rfl | (simp; done) | (simp [AV.dem]; rfl)), sr, trivial⟩⟩, ⟨_, rfl, subL_refl _⟩, ⟨_, rfl, subL_refl _⟩, trivial⟩))
   exact nx 2 rfl (eX _ (oi h2).symm (ghost_le (le_mk ⟨er rfl, er rfl, er rfl, er rfl, er rfl, er rfl, trivial⟩ ⟨⟨_, rfl, ⟨sr, sr, sr, sr, sr, sr, sr, sr, sr, sr, sr, sr, sr, sr, sr, sr, sr, sr, sr, sr, sr, sr, trivial⟩⟩, ⟨_, rfl, ⟨sr, AV.sub_of_eq (by first | rfl | (simp; done) | (simp [AV.dem]; rfl)), AV.sub_of_eq (by first | rfl | (simp; done) | (simp [AV.dem]; rfl)), sr, trivial⟩⟩, ⟨_, rfl, subL_refl _⟩, ⟨_, rfl, subL_refl _⟩, trivial⟩)))
  refine cc' h3 fun hk36 h3 => bd h3 fun r37 e38 h3 => fB (p := r37) [] h3 rfl (fun c39 h3 => ?_) fun c39 h3 => ?_
  ·refine mD [(0, .ptr 1000000 0), (1, .p (eI i_1)), (4, .ptr 4 0), (5, .p (eI t29)), (6, .ptr 6 0), (17, .p (eL eTChange x_0.fchanges)), (18, .p (eI (x_0.fchanges.length : Int))), (19, .p (eI t29))] rfl ⟨rfl, rfl, rfl, rfl, rfl, rfl, rfl, rfl, trivial⟩ rfl (dR 7 rfl ?_)
   refine dq (.ptr 1000001 t29.toNat) [29,30] rfl (fun _ e _ q => one_op rfl (ok_indexAddrA1 rfl rfl rfl rfl rfl rfl (e _ _ rfl) (e _ _ rfl) rfl hk36 q)) rfl (dq (.p (eS (lat l32 t29))) [31] rfl (fun _ e _ q => one_op rfl (ok_loadM (default : Bytes) (f := eS) (l := l32) rfl rfl rfl rfl rfl (e _ _ rfl) rfl (by have := hk36; omega) q)) rfl ?_)
   refine dq (.p (eB r37)) [25,32] rfl (fun _ e _ q => one_op rfl (ok_callP (slices_Contains_string_string_ok _ ((lat x_0.fchanges i_1).fDeps) (lat l32 t29) _ e38) rfl rfl rfl (args_cons (e _ _ rfl) (args_cons (e _ _ rfl) args_nil)) ⟨sr, sr, trivial⟩ Tryz.call62 rfl q)) rfl (dL (c39) rfl ?_)
   refine dR 20 rfl (dE rfl ?_)
   exact nx 1 rfl (eX _ (oi h3).symm (gE rfl rfl))
  refine bd h3 fun r40 e41 h3 => fB (p := r40) [] h3 rfl (fun c42 h3 => ?_) fun c42 h3 => ?_
  ·refine fN (p := (lat x_0.fchanges t29).fAction = 0) [] h3 rfl (fun c43 h3 => ?_) fun c43 h3 => ?_
   ·refine mD [(0, .ptr 1000000 0), (1, .p (eI i_1)), (4, .ptr 4 0), (5, .p (eI t29)), (6, .ptr 6 0), (17, .p (eL eTChange x_0.fchanges)), (18, .p (eI (x_0.fchanges.length : Int))), (19, .p (eI t29))] rfl ⟨rfl, rfl, rfl, rfl, rfl, rfl, rfl, rfl, trivial⟩ rfl (dR 7 rfl ?_)
    refine dq (.ptr 1000001 t29.toNat) [29,30] rfl (fun _ e _ q => one_op rfl (ok_indexAddrA1 rfl rfl rfl rfl rfl rfl (e _ _ rfl) (e _ _ rfl) rfl hk36 q)) rfl (dq (.p (eS (lat l32 t29))) [31] rfl (fun _ e _ q => one_op rfl (ok_loadM (default : Bytes) (f := eS) (l := l32) rfl rfl rfl rfl rfl (e _ _ rfl) rfl (by have := hk36; omega) q)) rfl ?_)
    refine dq (.p (eB r37)) [25,32] rfl (fun _ e _ q => one_op rfl (ok_callP (slices_Contains_string_string_ok _ ((lat x_0.fchanges i_1).fDeps) (lat l32 t29) _ e38) rfl rfl rfl (args_cons (e _ _ rfl) (args_cons (e _ _ rfl) args_nil)) ⟨sr, sr, trivial⟩ Tryz.call62 rfl q)) rfl (dL (c39) rfl ?_)
    refine dR 1 rfl (dq (.p (eB r40)) [34,35] rfl (fun _ e _ q => one_yes (ok_callP (target_removes_ok (lat x_0.fchanges i_1) _ e41) rfl rfl rfl (args_cons (e _ _ rfl) args_nil) ⟨sr, trivial⟩ Tryz.call63 rfl q) rfl rfl (e _ _ rfl) (rfl)) rfl ?_)
    refine dL (c42) rfl (dR 2 rfl ?_)
    refine dL (nd_false c43) rfl (dR 14 rfl ?_)
    refine dE rfl (nx 1 rfl ?_)
    exact eX _ (oi h3).symm (gE rfl rfl)
   refine cc' h3 fun hk44 h3 => bd h3 fun r45 e46 h3 => mD [(0, .ptr 1000000 0), (1, .p (eI i_1)), (4, .ptr 4 0), (5, .p (eI t29)), (6, .ptr 6 0), (17, .p (eL eTChange x_0.fchanges)), (18, .p (eI (x_0.fchanges.length : Int))), (19, .p (eI t29))] rfl ⟨rfl, rfl, rfl, rfl, rfl, rfl, rfl, rfl, trivial⟩ rfl (dR 7 rfl ?_)
   refine dq (.ptr 1000001 t29.toNat) [29,30] rfl (fun _ e _ q => one_op rfl (ok_indexAddrA1 rfl rfl rfl rfl rfl rfl (e _ _ rfl) (e _ _ rfl) rfl hk36 q)) rfl (dq (.p (eS (lat l32 t29))) [31] rfl (fun _ e _ q => one_op rfl (ok_loadM (default : Bytes) (f := eS) (l := l32) rfl rfl rfl rfl rfl (e _ _ rfl) rfl (by have := hk36; omega) q)) rfl ?_)
   refine dq (.p (eB r37)) [25,32] rfl (fun _ e _ q => one_op rfl (ok_callP (slices_Contains_string_string_ok _ ((lat x_0.fchanges i_1).fDeps) (lat l32 t29) _ e38) rfl rfl rfl (args_cons (e _ _ rfl) (args_cons (e _ _ rfl) args_nil)) ⟨sr, sr, trivial⟩ Tryz.call62 rfl q)) rfl (dL (c39) rfl ?_)
   refine dR 1 rfl (dq (.p (eB r40)) [34,35] rfl (fun _ e _ q => one_yes (ok_callP (target_removes_ok (lat x_0.fchanges i_1) _ e41) rfl rfl rfl (args_cons (e _ _ rfl) args_nil) ⟨sr, trivial⟩ Tryz.call63 rfl q) rfl rfl (e _ _ rfl) (rfl)) rfl ?_)
   refine dL (c42) rfl (dR 2 rfl ?_)
   refine dL (nd_true c43) rfl (dR 9 rfl ?_)
   refine dq (.ptr 1000001 i_1.toNat) [42,48,49] rfl (fun _ e _ q => one_yes (ok_indexAddrA1 rfl rfl rfl rfl rfl rfl (e _ _ rfl) (e _ _ rfl) rfl hk44 q) rfl rfl (e _ _ rfl) (rfl)) rfl (dq (.p (eS (lat l32 i_1))) [42,50] rfl (fun _ e _ q => one_yes (ok_loadM (default : Bytes) (f := eS) (l := l32) rfl rfl rfl rfl rfl (e _ _ rfl) rfl (by have := hk44; omega) q) rfl rfl (e _ _ rfl) (rfl)) rfl ?_)
   refine dq (.p (eB r45)) [42,44,51] rfl (fun _ e _ q => one_yes (ok_callP (slices_Contains_string_string_ok _ ((lat x_0.fchanges t29).fOldDeps) (lat l32 i_1) _ e46) rfl rfl rfl (args_cons (e _ _ rfl) (args_cons (e _ _ rfl) args_nil)) ⟨sr, sr, trivial⟩ Tryz.call62 rfl q) rfl rfl (e _ _ rfl) (rfl)) rfl (dR 2 rfl ?_)
   refine dE rfl (nx 1 rfl ?_)
   exact eX _ (oi h3).symm (gE rfl rfl)
  refine mD [(0, .ptr 1000000 0), (1, .p (eI i_1)), (4, .ptr 4 0), (5, .p (eI t29)), (6, .ptr 6 0), (17, .p (eL eTChange x_0.fchanges)), (18, .p (eI (x_0.fchanges.length : Int))), (19, .p (eI t29))] rfl ⟨rfl, rfl, rfl, rfl, rfl, rfl, rfl, rfl, trivial⟩ rfl (dR 7 rfl ?_)
  refine dq (.ptr 1000001 t29.toNat) [29,30] rfl (fun _ e _ q => one_op rfl (ok_indexAddrA1 rfl rfl rfl rfl rfl rfl (e _ _ rfl) (e _ _ rfl) rfl hk36 q)) rfl (dq (.p (eS (lat l32 t29))) [31] rfl (fun _ e _ q => one_op rfl (ok_loadM (default : Bytes) (f := eS) (l := l32) rfl rfl rfl rfl rfl (e _ _ rfl) rfl (by have := hk36; omega) q)) rfl ?_)
  refine dq (.p (eB r37)) [25,32] rfl (fun _ e _ q => one_op rfl (ok_callP (slices_Contains_string_string_ok _ ((lat x_0.fchanges i_1).fDeps) (lat l32 t29) _ e38) rfl rfl rfl (args_cons (e _ _ rfl) (args_cons (e _ _ rfl) args_nil)) ⟨sr, sr, trivial⟩ Tryz.call62 rfl q)) rfl (dL (c39) rfl ?_)
  refine dR 1 rfl (dq (.p (eB r40)) [34,35] rfl (fun _ e _ q => one_yes (ok_callP (target_removes_ok (lat x_0.fchanges i_1) _ e41) rfl rfl rfl (args_cons (e _ _ rfl) args_nil) ⟨sr, trivial⟩ Tryz.call63 rfl q) rfl rfl (e _ _ rfl) (rfl)) rfl ?_)
  refine dL (c42) rfl (dR 17 rfl ?_)
  refine dE rfl (nx 1 rfl ?_)
  exact eX _ (oi h3).symm (gE rfl rfl)
 exact nx 2 rfl (eXi _ (oi h1).symm (ghost_le (le_mk trivial ⟨⟨_, rfl, ⟨sr, AV.sub_of_eq (by first | rfl | (simp; done) | (simp [AV.dem]; rfl)), AV.sub_of_eq (by first | rfl | (simp; done) | (simp [AV.dem]; rfl)), sr, trivial⟩⟩, ⟨_, rfl, subL_refl _⟩, ⟨_, rfl, subL_refl _⟩, trivial⟩)))

def target_copied_l1 (r_target_copied : TValue → Option TValue) : Nat → Option Unit
 | 0 => none
 | m + 1 =>
 if 0 < (([] : List TValue).length : Int) then
  ck ((0 : Int) ≤ 0 ∧ 0 < (([] : List TValue).length : Int)) <|
  (r_target_copied (lat ([] : List TValue) 0)).bind fun r6 =>
  ck ((0 : Int) ≤ 0 ∧ 0 < (([] : List TValue).length : Int)) <|
  none
 else
  some ()

def target_copied_l2 (r_target_copied : TValue → Option TValue) (v_0 : TValue) : Nat → Int → (List TValue) → Option (List TValue)
 | 0, _, _ => none
 | m + 1, t17, l18 =>
 if t17 < (v_0.fItems.length : Int) then
  ck ((0 : Int) ≤ t17 ∧ t17 < (l18.length : Int)) <|
  (r_target_copied (lat l18 t17)).bind fun r21 =>
  ck ((0 : Int) ≤ t17 ∧ t17 < (l18.length : Int)) <|
  ck (inR (t17 + 1)) <|
  target_copied_l2 r_target_copied v_0 m (t17 + 1) (l18.set t17.toNat r21)
 else
  some l18

def target_copied : Nat → TValue → Option TValue
 | 0, _ => none
 | n + 1, v_0 =>
 ck (v_0.fKeys.length * 16 ≤ 140737488355328) <|
 if v_0.fItems.isEmpty = true then
  (target_copied_l1 (target_copied n) n ).bind fun q28 =>
  some (TValue.mk v_0.fKind v_0.fNum v_0.fStr ([] : List TValue) v_0.fKeys)
 else
  ck (v_0.fItems.length * 80 ≤ 140737488355328) <|
  (target_copied_l2 (target_copied n) v_0 n 0 v_0.fItems).bind fun l27 =>
  some (TValue.mk v_0.fKind v_0.fNum v_0.fStr l27 v_0.fKeys)

set_option maxHeartbeats 4000000 in
theorem target_copied_ok (n : Nat) : ∀ (v_0 : TValue) (r : TValue), target_copied n v_0 = some r → PCalls Tryz.prog 64 [.agg (TValue.cs v_0)] (· = .p (.agg (TValue.cs r))) := by
 induction n with
 | zero => intro v_0 r h0; cases h0
 | succ n ih =>
 have ih_target_copied_ok := ih
 intro v_0 r h0
 rw [target_copied] at h0
 refine pbodyA good Tryz.func64 rfl rfl rfl fun w0 => mP (fun v : TValue => .p (.agg (TValue.cs v))) ?_
 refine nx 9 rfl (cc' h0 fun hk1 h0 => ?_)
 refine oK (slices_Clone_string_string_ok v_0.fKeys hk1) rfl ⟨sr, trivial⟩ Tryz.call65 rfl (nx 7 rfl ?_)
 refine any_byB (b := v_0.fItems.isEmpty) (fun c2 => ?_) (fun c2 => ?_)
 ·replace h0 := if_t c2 h0
  refine mO rfl (ok_callP (slices_Clone_api_Value_api_Value_nil v_0.fItems c2) rfl rfl rfl rfl ⟨sr, trivial⟩ Tryz.call90 rfl ?_)
  refine nx 8 rfl (oLl (f := eTValue) rfl rfl ?_)
  refine nx 3 rfl (bd h0 fun o30 h1 h0 => ?_)
  refine kE 0 o30 (fun v31 => ⟨[(1, .ptr 1 0), (2, .ptr 2 0)], [(1, [.p (eI v_0.fKind), .p (eI v_0.fNum), .p (eS v_0.fStr), .p (eL eTValue ([] : List TValue)), .p (eL eS v_0.fKeys)]), (2, [.p (eI 0), .p (eI 0), .p (eS ([] : Bytes)), .p (.val (.slice none 0 0)), .p (.val (.slice none 0 0))])]⟩) ?_ ?_
  ·exact nx 7 rfl (mQ (oi h0) rfl (sr))
  refine lG (fun (q32 : Unit) => ⟨[(1, .ptr 1 0), (2, .ptr 2 0), (14, .p (eI (([] : List TValue).length : Int))), (15, .p (eI 0))], [(1, [.p (eI v_0.fKind), .p (eI v_0.fNum), .p (eS v_0.fStr), .p (eL eTValue ([] : List TValue)), .p (eL eS v_0.fKeys)]), (2, [.p (eI 0), .p (eI 0), .p (eS ([] : Bytes)), .p (.val (.slice none 0 0)), .p (.val (.slice none 0 0))])]⟩) (fun m (q32 : Unit) => target_copied_l1 (target_copied n) m ) (fun _ => rfl) () h1 (gE rfl rfl) ?_
  rintro m _ h1
  replace h1 : target_copied_l1 (target_copied n) (m + 1)  = some o30 := h1
  rw [target_copied_l1] at h1
  refine nx 5 rfl (fD [16] h1 rfl (fun c4 h1 => ?_) fun c4 h1 => ?_)
  ·refine nx 9 rfl (cc' h1 fun hk5 h1 => ?_)
   refine bd h1 fun r6 e7 h1 => cc' h1 fun hk8 h1 => ?_
   cases h1
  exact nx 2 rfl (eXi _ (oi h1).symm (gE rfl rfl))
 replace h0 := if_bf c2 h0
 refine cc' h0 fun hk3 h0 => mO rfl (op_callV [] [] 101000 101001 (slices_Clone_api_Value_api_Value_row v_0.fItems c2 hk3) rfl rfl rfl rfl rfl ⟨sr, trivial⟩ rfl rfl trivial rfl rfl rfl rfl rfl rfl rfl rfl Tryz.call90 rfl (mapO_cons rfl (mapA_go_p _) rfl) ?_)
 refine nx 12 rfl (bd h0 fun o33 h1 h0 => ?_)
 refine kE 0 o33 (fun v34 => ⟨[(1, .ptr 1 0), (2, .ptr 2 0)], [(1, [.p (eI v_0.fKind), .p (eI v_0.fNum), .p (eS v_0.fStr), .arr 101000 5 0 v34.length, .p (eL eS v_0.fKeys)]), (2, [.p (eI 0), .p (eI 0), .p (eS ([] : Bytes)), .p (.val (.slice none 0 0)), .p (.val (.slice none 0 0))]), (101000, rowC eTValue v34)]⟩) ?_ ?_
 ·refine nx 3 rfl (mG (ghost_freezeA (sl' := [(1, .ptr 1 0), (2, .ptr 2 0)]) (ob' := [(1, [.p (eI v_0.fKind), .p (eI v_0.fNum), .p (eS v_0.fStr), .p (eL eTValue o33), .p (eL eS v_0.fKeys)]), (2, [.p (eI 0), .p (eI 0), .p (eS ([] : Bytes)), .p (.val (.slice none 0 0)), .p (.val (.slice none 0 0))])]) 101000 5 eTValue o33 rfl rfl rfl (fun x => ⟨congrArg List.length (TValue.cells_eq x), by rw [TValue.cells_eq]; rfl⟩) ⟨⟨_, rfl, .inl rfl⟩, ⟨_, rfl, .inl rfl⟩, trivial⟩ ⟨⟨rfl, _, rfl, ⟨.inl rfl, .inl rfl, .inl rfl, .inr ⟨(by simp), rfl⟩, .inl rfl, trivial⟩⟩, ⟨rfl, _, rfl, ⟨.inl rfl, .inl rfl, .inl rfl, .inl rfl, .inl rfl, trivial⟩⟩, trivial⟩) ?_)
  exact nx 4 rfl (mQ (oi h0) rfl (sr))
 refine lG (fun (q35 : Int × (List TValue)) => ⟨[(1, .ptr 1 0), (2, .ptr 2 0), (14, .p (eI (v_0.fItems.length : Int))), (15, .p (eI q35.1))], [(1, [.p (eI v_0.fKind), .p (eI v_0.fNum), .p (eS v_0.fStr), .arr 101000 5 0 q35.2.length, .p (eL eS v_0.fKeys)]), (2, [.p (eI 0), .p (eI 0), .p (eS ([] : Bytes)), .p (.val (.slice none 0 0)), .p (.val (.slice none 0 0))]), (101000, rowC eTValue q35.2)]⟩) (fun m (q35 : Int × (List TValue)) => target_copied_l2 (target_copied n) v_0 m q35.1 q35.2) (fun _ => rfl) (0, v_0.fItems) h1 (ghost_le (le_mk ⟨er rfl, er rfl, er rfl, er rfl, trivial⟩ ⟨⟨_, rfl, ⟨sr, sr, sr, AV.sub_of_eq (congrArg (AV.arr 101000 5 0) (by simp)), sr, trivial⟩⟩, ⟨_, rfl, ⟨sr, sr, sr, sr, sr, trivial⟩⟩, ⟨_, rfl, subL_refl _⟩, trivial⟩)) ?_
 rintro m ⟨t17, l18⟩ h1
 replace h1 : target_copied_l2 (target_copied n) v_0 (m + 1) t17 l18 = some o33 := h1
 rw [target_copied_l2] at h1
 refine nx 5 rfl (fD [16] h1 rfl (fun c19 h1 => ?_) fun c19 h1 => ?_)
 ·refine nx 9 rfl (cc' h1 fun hk20 h1 => ?_)
  refine bd h1 fun r21 e22 h1 => cc' h1 fun hk23 h1 => mG (ghost_le (t := ⟨[(1, .ptr 1 0), (2, .ptr 2 0), (3, .p (eI t17)), (14, .p (eI (v_0.fItems.length : Int))), (15, .p (eI t17))], [(1, [.p (eI v_0.fKind), .p (eI v_0.fNum), .p (eS v_0.fStr), .arr 101000 5 0 l18.length, .p (eL eS v_0.fKeys)]), (2, [.p (eI 0), .p (eI 0), .p (eS ([] : Bytes)), .p (.val (.slice none 0 0)), .p (.val (.slice none 0 0))]), (101000, rowC eTValue l18)]⟩) (le_mk ⟨er rfl, er rfl, er rfl, er rfl, er rfl, trivial⟩ ⟨⟨_, rfl, ⟨sr, sr, sr, AV.sub_of_eq (congrArg (AV.arr 101000 5 0) (by simp)), sr, trivial⟩⟩, ⟨_, rfl, ⟨sr, sr, sr, sr, sr, trivial⟩⟩, ⟨_, rfl, subL_refl _⟩, trivial⟩)) (mS ⟨1, [10], (fun _ => .none), (fun _ => [(1, .ptr 1 0), (2, .ptr 2 0), (3, .p (eI t17)), (14, .p (eI (v_0.fItems.length : Int))), (15, .p (eI t17))]), (by2 ([(1, [.p (eI v_0.fKind), .p (eI v_0.fNum), .p (eS v_0.fStr), .arr 101000 5 0 l18.length, .p (eL eS v_0.fKeys)]), (2, [.p (eI 0), .p (eI 0), .p (eS ([] : Bytes)), .p (.val (.slice none 0 0)), .p (.val (.slice none 0 0))]), (101000, rowC eTValue l18)]) ([(101000, rowC eTValue (l18.set t17.toNat r21)), (1, [.p (eI v_0.fKind), .p (eI v_0.fNum), .p (eS v_0.fStr), .arr 101000 5 0 l18.length, .p (eL eS v_0.fKeys)]), (2, [.p (eI 0), .p (eI 0), .p (eS ([] : Bytes)), .p (.val (.slice none 0 0)), .p (.val (.slice none 0 0))]), (101000, rowC eTValue l18)]))⟩ rfl rfl rfl ⟨rfl, rfl, rfl, rfl, rfl, trivial⟩ (lt1 ⟨rfl, rfl, rfl, rfl, rfl, trivial⟩) rfl rfl rfl rfl ?_)
  refine ds_pure (fun _ => .ptr 1 3) rfl rfl rfl (all2 rfl (fun _ => rfl)) (lt1 rfl) (stg_no rfl (stg_yes [(1, _)] ⟨.inl rfl, trivial⟩ (fun sl hsl K hK => one_op rfl (ok_fieldAddrP rfl rfl rfl rfl rfl rfl rfl rfl (hsl _ _ rfl) hK)) stg_nil)) (ds_pure (fun _ => .arr 101000 5 0 l18.length) rfl rfl rfl (all2 rfl (fun _ => rfl)) (lt1 rfl) (stg_no rfl (stg_yes [(18, _)] ⟨.inr ⟨0, _, rfl, rfl, rfl⟩, trivial⟩ (fun sl hsl K hK => one_op rfl (ok_loadP1 rfl rfl rfl rfl rfl (hsl _ _ rfl) rfl rfl hK)) stg_nil)) ?_)
  refine ds_pure (fun _ => .p (eI t17)) rfl rfl rfl (all2 rfl (fun _ => rfl)) (lt1 rfl) (stg_no rfl (stg_yes [(3, _)] ⟨.inl rfl, trivial⟩ (fun sl hsl K hK => one_op rfl (ok_move rfl rfl rfl (hsl _ _ rfl) hK)) stg_nil)) (ds_pure (fun _ => .ptr 1 3) rfl rfl rfl (all2 rfl (fun _ => rfl)) (lt1 rfl) (stg_no rfl (stg_yes [(1, _)] ⟨.inl rfl, trivial⟩ (fun sl hsl K hK => one_op rfl (ok_fieldAddrP rfl rfl rfl rfl rfl rfl rfl rfl (hsl _ _ rfl) hK)) stg_nil)) ?_)
  refine ds_pure (fun _ => .arr 101000 5 0 l18.length) rfl rfl rfl (all2 rfl (fun _ => rfl)) (lt1 rfl) (stg_no rfl (stg_yes [(21, _)] ⟨.inr ⟨3, _, rfl, rfl, rfl⟩, trivial⟩ (fun sl hsl K hK => one_op rfl (ok_loadP1 rfl rfl rfl rfl rfl (hsl _ _ rfl) rfl rfl hK)) stg_nil)) (ds_pure (fun _ => .p (eI t17)) rfl rfl rfl (all2 rfl (fun _ => rfl)) (lt1 rfl) (stg_no rfl (stg_yes [(3, _)] ⟨.inl rfl, trivial⟩ (fun sl hsl K hK => one_op rfl (ok_move rfl rfl rfl (hsl _ _ rfl) hK)) stg_nil)) ?_)
  refine ds_pure (fun _ => .ptr 101000 (0 + t17.toNat * 5)) rfl rfl rfl (all2 rfl (fun _ => rfl)) (lt1 rfl) (stg_no rfl (stg_yes [(22, _), (23, _)] ⟨.inr ⟨4, _, rfl, rfl, rfl⟩, .inr ⟨5, _, rfl, rfl, rfl⟩, trivial⟩ (fun sl hsl K hK => one_op rfl (ok_indexAddrA rfl rfl rfl rfl rfl rfl (hsl _ _ rfl) (hsl _ _ rfl) rfl hk20 hK)) stg_nil)) (ds_pure (fun _ => .p (.agg (TValue.cs (lat l18 t17)))) rfl rfl rfl (all2 rfl (fun _ => rfl)) (lt1 rfl) (stg_no rfl (stg_yes [(24, _)] ⟨.inr ⟨6, _, rfl, rfl, rfl⟩, trivial⟩ (fun sl hsl K hK => one_op rfl (op_loadRow eTValue TValue.cs l18 rfl rfl rfl rfl rfl (hsl _ _ rfl) rfl rfl rfl hk20 TValue.cells_eq (fun _ => rfl) hK)) stg_nil)) ?_)
  refine ds_pure (fun _ => .p (.agg (TValue.cs r21))) rfl rfl rfl (all2 rfl (fun _ => rfl)) (lt1 rfl) (stg_no rfl (stg_yes [(25, _)] ⟨.inr ⟨7, _, rfl, rfl, rfl⟩, trivial⟩ (fun sl hsl K hK => one_op rfl (ok_callP (ih_target_copied_ok (lat l18 t17) _ e22) rfl rfl rfl (args_cons (hsl _ _ rfl) args_nil) ⟨sr, trivial⟩ Tryz.call64 rfl hK)) stg_nil)) (ds_pure (fun _ => .ptr 101000 (0 + t17.toNat * 5)) rfl rfl rfl (all2 rfl (fun _ => rfl)) (lt1 rfl) (stg_no rfl (stg_yes [(19, _), (20, _)] ⟨.inr ⟨1, _, rfl, rfl, rfl⟩, .inr ⟨2, _, rfl, rfl, rfl⟩, trivial⟩ (fun sl hsl K hK => one_op rfl (ok_indexAddrA rfl rfl rfl rfl rfl rfl (hsl _ _ rfl) (hsl _ _ rfl) rfl hk23 hK)) stg_nil)) ?_)
  refine ds_store [(26, _), (27, _)] rfl ⟨.inr ⟨8, _, rfl, rfl, rfl⟩, .inr ⟨9, _, rfl, rfl, rfl⟩, trivial⟩ rfl (fun sl hsl K hK => one_op rfl (op_storeRow eTValue TValue.cs l18 r21 (n := t17) rfl rfl rfl (hsl _ _ rfl) (hsl _ _ rfl) rfl rfl rfl hk23 TValue.cells_eq (fun _ => rfl) (fun _ => rfl) hK)) (ds_nil ?_)
  refine nx 2 rfl (oA h1 rfl rfl fun hk24 h1 => ?_)
  exact nx 2 rfl (eX (t17 + 1, l18.set t17.toNat r21) h1 (ghost_le (le_mk ⟨er rfl, er rfl, er rfl, er rfl, trivial⟩ ⟨⟨_, rfl, ⟨sr, sr, sr, AV.sub_of_eq (congrArg (AV.arr 101000 5 0) (by simp)), sr, trivial⟩⟩, ⟨_, rfl, ⟨sr, sr, sr, sr, sr, trivial⟩⟩, ⟨_, rfl, subL_refl _⟩, trivial⟩)))
 exact nx 2 rfl (eXi _ (oi h1).symm (ghost_le (le_mk ⟨er rfl, er rfl, trivial⟩ ⟨⟨_, rfl, ⟨sr, sr, sr, AV.sub_of_eq (congrArg (AV.arr 101000 5 0) (by simp)), sr, trivial⟩⟩, ⟨_, rfl, ⟨sr, sr, sr, sr, sr, trivial⟩⟩, ⟨_, rfl, subL_refl _⟩, trivial⟩)))

def target_change (n : Nat) (c_0 : TChange) : Option TChange :=
 (target_copied n c_0.fBefore).bind fun r1 =>
 (target_copied n c_0.fAfter).bind fun r3 =>
 ck (c_0.fReplace.length * 16 ≤ 140737488355328) <|
 ck (c_0.fDeps.length * 16 ≤ 140737488355328) <|
 ck (c_0.fOldDeps.length * 16 ≤ 140737488355328) <|
 some (TChange.mk c_0.fAddr c_0.fDeposed c_0.fType c_0.fAction c_0.fReason r1 r3 c_0.fID c_0.fReplace c_0.fCreateFirst c_0.fProtect c_0.fImport c_0.fDeps c_0.fOldDeps)

set_option maxHeartbeats 4000000 in
theorem target_change_ok (n : Nat) (c_0 : TChange) (r : TChange) (h0 : target_change n c_0 = some r) : PCalls Tryz.prog 41 [.agg (TChange.cs c_0)] (· = .p (.agg (TChange.cs r))) := by
 unfold target_change at h0
 refine pbodyA good Tryz.func41 rfl rfl rfl fun w0 => mP (fun v : TChange => .p (.agg (TChange.cs v))) ?_
 refine nx 6 rfl (bd h0 fun r1 e2 h0 => ?_)
 refine bd h0 fun r3 e4 h0 => mG (gE (t := ⟨[(1, .ptr 1 0), (2, .ptr 2 0)], [(1, (TChange.cs c_0).map .p), (2, [.p (eS ([] : Bytes)), .p (eS ([] : Bytes)), .p (eS ([] : Bytes)), .p (eI 0), .p (eI 0), .p (eI 0), .p (eI 0), .p (eS ([] : Bytes)), .p (.val (.slice none 0 0)), .p (.val (.slice none 0 0)), .p (eI 0), .p (eI 0), .p (eS ([] : Bytes)), .p (.val (.slice none 0 0)), .p (.val (.slice none 0 0)), .p (eS ([] : Bytes)), .p (.val (.slice none 0 0)), .p (eB false), .p (eB false), .p (eB false), .p (.val (.slice none 0 0)), .p (.val (.slice none 0 0))])]⟩) rfl rfl) (mS ⟨2, [7, 9], (fun _ => .none), (fun _ => [(1, .ptr 1 0), (2, .ptr 2 0)]), (by3 ([(1, [.p (eS c_0.fAddr), .p (eS c_0.fDeposed), .p (eS c_0.fType), .p (eI c_0.fAction), .p (eI c_0.fReason), .p (eI c_0.fBefore.fKind), .p (eI c_0.fBefore.fNum), .p (eS c_0.fBefore.fStr), .p (eL eTValue c_0.fBefore.fItems), .p (eL eS c_0.fBefore.fKeys), .p (eI c_0.fAfter.fKind), .p (eI c_0.fAfter.fNum), .p (eS c_0.fAfter.fStr), .p (eL eTValue c_0.fAfter.fItems), .p (eL eS c_0.fAfter.fKeys), .p (eS c_0.fID), .p (eL eS c_0.fReplace), .p (eB c_0.fCreateFirst), .p (eB c_0.fProtect), .p (eB c_0.fImport), .p (eL eS c_0.fDeps), .p (eL eS c_0.fOldDeps)]), (2, [.p (eS ([] : Bytes)), .p (eS ([] : Bytes)), .p (eS ([] : Bytes)), .p (eI 0), .p (eI 0), .p (eI 0), .p (eI 0), .p (eS ([] : Bytes)), .p (.val (.slice none 0 0)), .p (.val (.slice none 0 0)), .p (eI 0), .p (eI 0), .p (eS ([] : Bytes)), .p (.val (.slice none 0 0)), .p (.val (.slice none 0 0)), .p (eS ([] : Bytes)), .p (.val (.slice none 0 0)), .p (eB false), .p (eB false), .p (eB false), .p (.val (.slice none 0 0)), .p (.val (.slice none 0 0))])]) ([(1, [.p (eS c_0.fAddr), .p (eS c_0.fDeposed), .p (eS c_0.fType), .p (eI c_0.fAction), .p (eI c_0.fReason), .p (eI r1.fKind), .p (eI r1.fNum), .p (eS r1.fStr), .p (eL eTValue r1.fItems), .p (eL eS r1.fKeys), .p (eI c_0.fAfter.fKind), .p (eI c_0.fAfter.fNum), .p (eS c_0.fAfter.fStr), .p (eL eTValue c_0.fAfter.fItems), .p (eL eS c_0.fAfter.fKeys), .p (eS c_0.fID), .p (eL eS c_0.fReplace), .p (eB c_0.fCreateFirst), .p (eB c_0.fProtect), .p (eB c_0.fImport), .p (eL eS c_0.fDeps), .p (eL eS c_0.fOldDeps)]), (1, [.p (eS c_0.fAddr), .p (eS c_0.fDeposed), .p (eS c_0.fType), .p (eI c_0.fAction), .p (eI c_0.fReason), .p (eI c_0.fBefore.fKind), .p (eI c_0.fBefore.fNum), .p (eS c_0.fBefore.fStr), .p (eL eTValue c_0.fBefore.fItems), .p (eL eS c_0.fBefore.fKeys), .p (eI c_0.fAfter.fKind), .p (eI c_0.fAfter.fNum), .p (eS c_0.fAfter.fStr), .p (eL eTValue c_0.fAfter.fItems), .p (eL eS c_0.fAfter.fKeys), .p (eS c_0.fID), .p (eL eS c_0.fReplace), .p (eB c_0.fCreateFirst), .p (eB c_0.fProtect), .p (eB c_0.fImport), .p (eL eS c_0.fDeps), .p (eL eS c_0.fOldDeps)]), (2, [.p (eS ([] : Bytes)), .p (eS ([] : Bytes)), .p (eS ([] : Bytes)), .p (eI 0), .p (eI 0), .p (eI 0), .p (eI 0), .p (eS ([] : Bytes)), .p (.val (.slice none 0 0)), .p (.val (.slice none 0 0)), .p (eI 0), .p (eI 0), .p (eS ([] : Bytes)), .p (.val (.slice none 0 0)), .p (.val (.slice none 0 0)), .p (eS ([] : Bytes)), .p (.val (.slice none 0 0)), .p (eB false), .p (eB false), .p (eB false), .p (.val (.slice none 0 0)), .p (.val (.slice none 0 0))])]) ([(1, [.p (eS c_0.fAddr), .p (eS c_0.fDeposed), .p (eS c_0.fType), .p (eI c_0.fAction), .p (eI c_0.fReason), .p (eI r1.fKind), .p (eI r1.fNum), .p (eS r1.fStr), .p (eL eTValue r1.fItems), .p (eL eS r1.fKeys), .p (eI r3.fKind), .p (eI r3.fNum), .p (eS r3.fStr), .p (eL eTValue r3.fItems), .p (eL eS r3.fKeys), .p (eS c_0.fID), .p (eL eS c_0.fReplace), .p (eB c_0.fCreateFirst), .p (eB c_0.fProtect), .p (eB c_0.fImport), .p (eL eS c_0.fDeps), .p (eL eS c_0.fOldDeps)]), (1, [.p (eS c_0.fAddr), .p (eS c_0.fDeposed), .p (eS c_0.fType), .p (eI c_0.fAction), .p (eI c_0.fReason), .p (eI r1.fKind), .p (eI r1.fNum), .p (eS r1.fStr), .p (eL eTValue r1.fItems), .p (eL eS r1.fKeys), .p (eI c_0.fAfter.fKind), .p (eI c_0.fAfter.fNum), .p (eS c_0.fAfter.fStr), .p (eL eTValue c_0.fAfter.fItems), .p (eL eS c_0.fAfter.fKeys), .p (eS c_0.fID), .p (eL eS c_0.fReplace), .p (eB c_0.fCreateFirst), .p (eB c_0.fProtect), .p (eB c_0.fImport), .p (eL eS c_0.fDeps), .p (eL eS c_0.fOldDeps)]), (1, [.p (eS c_0.fAddr), .p (eS c_0.fDeposed), .p (eS c_0.fType), .p (eI c_0.fAction), .p (eI c_0.fReason), .p (eI c_0.fBefore.fKind), .p (eI c_0.fBefore.fNum), .p (eS c_0.fBefore.fStr), .p (eL eTValue c_0.fBefore.fItems), .p (eL eS c_0.fBefore.fKeys), .p (eI c_0.fAfter.fKind), .p (eI c_0.fAfter.fNum), .p (eS c_0.fAfter.fStr), .p (eL eTValue c_0.fAfter.fItems), .p (eL eS c_0.fAfter.fKeys), .p (eS c_0.fID), .p (eL eS c_0.fReplace), .p (eB c_0.fCreateFirst), .p (eB c_0.fProtect), .p (eB c_0.fImport), .p (eL eS c_0.fDeps), .p (eL eS c_0.fOldDeps)]), (2, [.p (eS ([] : Bytes)), .p (eS ([] : Bytes)), .p (eS ([] : Bytes)), .p (eI 0), .p (eI 0), .p (eI 0), .p (eI 0), .p (eS ([] : Bytes)), .p (.val (.slice none 0 0)), .p (.val (.slice none 0 0)), .p (eI 0), .p (eI 0), .p (eS ([] : Bytes)), .p (.val (.slice none 0 0)), .p (.val (.slice none 0 0)), .p (eS ([] : Bytes)), .p (.val (.slice none 0 0)), .p (eB false), .p (eB false), .p (eB false), .p (.val (.slice none 0 0)), .p (.val (.slice none 0 0))])]))⟩ rfl rfl rfl ⟨rfl, rfl, trivial⟩ (lt2 ⟨rfl, rfl, trivial⟩ ⟨rfl, rfl, trivial⟩) rfl rfl rfl rfl ?_)
 refine ds_pure (fun _ => .ptr 1 5) rfl rfl rfl (all3 rfl rfl (fun _ => rfl)) (lt2 rfl rfl) (stg_no rfl (stg_no rfl (stg_yes [(1, _)] ⟨.inl rfl, trivial⟩ (fun sl hsl K hK => one_op rfl (ok_fieldAddrP rfl rfl rfl rfl rfl rfl rfl rfl (hsl _ _ rfl) hK)) stg_nil))) (ds_pure (fun _ => .p (.agg (TValue.cs c_0.fBefore))) rfl rfl rfl (all3 rfl rfl (fun _ => rfl)) (lt2 rfl rfl) (stg_no rfl (stg_no rfl (stg_yes [(3, _)] ⟨.inr ⟨0, _, rfl, rfl, rfl⟩, trivial⟩ (fun sl hsl K hK => one_op rfl (ok_loadPA rfl rfl rfl rfl rfl (hsl _ _ rfl) rfl rfl rfl hK)) stg_nil))) ?_)
 refine ds_pure (fun _ => .p (.agg (TValue.cs r1))) rfl rfl rfl (all3 rfl rfl (fun _ => rfl)) (lt2 rfl rfl) (stg_no rfl (stg_no rfl (stg_yes [(4, _)] ⟨.inr ⟨1, _, rfl, rfl, rfl⟩, trivial⟩ (fun sl hsl K hK => one_op rfl (ok_callP (target_copied_ok _ c_0.fBefore _ e2) rfl rfl rfl (args_cons (hsl _ _ rfl) args_nil) ⟨sr, trivial⟩ Tryz.call64 rfl hK)) stg_nil))) (ds_pure (fun _ => .ptr 1 10) rfl rfl rfl (all3 rfl rfl (fun _ => rfl)) (lt2 rfl rfl) (stg_no rfl (stg_no rfl (stg_yes [(1, _)] ⟨.inl rfl, trivial⟩ (fun sl hsl K hK => one_op rfl (ok_fieldAddrP rfl rfl rfl rfl rfl rfl rfl rfl (hsl _ _ rfl) hK)) stg_nil))) ?_)
 refine ds_pure (fun _ => .p (.agg (TValue.cs c_0.fAfter))) rfl rfl rfl (all3 rfl rfl (fun _ => rfl)) (lt2 rfl rfl) (stg_no rfl (stg_no rfl (stg_yes [(6, _)] ⟨.inr ⟨3, _, rfl, rfl, rfl⟩, trivial⟩ (fun sl hsl K hK => one_op rfl (ok_loadPA rfl rfl rfl rfl rfl (hsl _ _ rfl) rfl rfl rfl hK)) stg_nil))) (ds_pure (fun _ => .p (.agg (TValue.cs r3))) rfl rfl rfl (all3 rfl rfl (fun _ => rfl)) (lt2 rfl rfl) (stg_no rfl (stg_no rfl (stg_yes [(7, _)] ⟨.inr ⟨4, _, rfl, rfl, rfl⟩, trivial⟩ (fun sl hsl K hK => one_op rfl (ok_callP (target_copied_ok _ c_0.fAfter _ e4) rfl rfl rfl (args_cons (hsl _ _ rfl) args_nil) ⟨sr, trivial⟩ Tryz.call64 rfl hK)) stg_nil))) ?_)
 refine ds_pure (fun _ => .ptr 1 5) rfl rfl rfl (all3 rfl rfl (fun _ => rfl)) (lt2 rfl rfl) (stg_no rfl (stg_no rfl (stg_yes [(1, _)] ⟨.inl rfl, trivial⟩ (fun sl hsl K hK => one_op rfl (ok_fieldAddrP rfl rfl rfl rfl rfl rfl rfl rfl (hsl _ _ rfl) hK)) stg_nil))) (ds_store [(5, _), (9, _)] rfl ⟨.inr ⟨2, _, rfl, rfl, rfl⟩, .inr ⟨6, _, rfl, rfl, rfl⟩, trivial⟩ rfl (fun sl hsl K hK => one_op rfl (ok_store rfl rfl rfl (hsl _ _ rfl) (hsl _ _ rfl) rfl rfl rfl (Nat.le_of_ble_eq_true rfl) hK)) ?_)
 refine ds_pure (fun _ => .ptr 1 10) rfl rfl rfl (all3 rfl rfl (fun _ => rfl)) (lt2 rfl rfl) (stg_no rfl (stg_yes [(1, _)] ⟨.inl rfl, trivial⟩ (fun sl hsl K hK => one_op rfl (ok_fieldAddrP rfl rfl rfl rfl rfl rfl rfl rfl (hsl _ _ rfl) hK)) (stg_no rfl stg_nil))) (ds_store [(8, _), (10, _)] rfl ⟨.inr ⟨5, _, rfl, rfl, rfl⟩, .inr ⟨8, _, rfl, rfl, rfl⟩, trivial⟩ rfl (fun sl hsl K hK => one_op rfl (ok_store rfl rfl rfl (hsl _ _ rfl) (hsl _ _ rfl) rfl rfl rfl (Nat.le_of_ble_eq_true rfl) hK)) ?_)
 refine ds_nil (nx 2 rfl ?_)
 refine cc' h0 fun hk5 h0 => cc' h0 fun hk6 h0 => cc' h0 fun hk7 h0 => mG (gE (t := ⟨[(1, .ptr 1 0), (2, .ptr 2 0)], [(1, [.p (eS c_0.fAddr), .p (eS c_0.fDeposed), .p (eS c_0.fType), .p (eI c_0.fAction), .p (eI c_0.fReason), .p (eI r1.fKind), .p (eI r1.fNum), .p (eS r1.fStr), .p (eL eTValue r1.fItems), .p (eL eS r1.fKeys), .p (eI r3.fKind), .p (eI r3.fNum), .p (eS r3.fStr), .p (eL eTValue r3.fItems), .p (eL eS r3.fKeys), .p (eS c_0.fID), .p (eL eS c_0.fReplace), .p (eB c_0.fCreateFirst), .p (eB c_0.fProtect), .p (eB c_0.fImport), .p (eL eS c_0.fDeps), .p (eL eS c_0.fOldDeps)]), (2, [.p (eS ([] : Bytes)), .p (eS ([] : Bytes)), .p (eS ([] : Bytes)), .p (eI 0), .p (eI 0), .p (eI 0), .p (eI 0), .p (eS ([] : Bytes)), .p (.val (.slice none 0 0)), .p (.val (.slice none 0 0)), .p (eI 0), .p (eI 0), .p (eS ([] : Bytes)), .p (.val (.slice none 0 0)), .p (.val (.slice none 0 0)), .p (eS ([] : Bytes)), .p (.val (.slice none 0 0)), .p (eB false), .p (eB false), .p (eB false), .p (.val (.slice none 0 0)), .p (.val (.slice none 0 0))])]⟩) rfl rfl) (mS ⟨3, [10, 12, 14], (fun _ => .none), (fun _ => [(1, .ptr 1 0), (2, .ptr 2 0)]), (by4 ([(1, [.p (eS c_0.fAddr), .p (eS c_0.fDeposed), .p (eS c_0.fType), .p (eI c_0.fAction), .p (eI c_0.fReason), .p (eI r1.fKind), .p (eI r1.fNum), .p (eS r1.fStr), .p (eL eTValue r1.fItems), .p (eL eS r1.fKeys), .p (eI r3.fKind), .p (eI r3.fNum), .p (eS r3.fStr), .p (eL eTValue r3.fItems), .p (eL eS r3.fKeys), .p (eS c_0.fID), .p (eL eS c_0.fReplace), .p (eB c_0.fCreateFirst), .p (eB c_0.fProtect), .p (eB c_0.fImport), .p (eL eS c_0.fDeps), .p (eL eS c_0.fOldDeps)]), (2, [.p (eS ([] : Bytes)), .p (eS ([] : Bytes)), .p (eS ([] : Bytes)), .p (eI 0), .p (eI 0), .p (eI 0), .p (eI 0), .p (eS ([] : Bytes)), .p (.val (.slice none 0 0)), .p (.val (.slice none 0 0)), .p (eI 0), .p (eI 0), .p (eS ([] : Bytes)), .p (.val (.slice none 0 0)), .p (.val (.slice none 0 0)), .p (eS ([] : Bytes)), .p (.val (.slice none 0 0)), .p (eB false), .p (eB false), .p (eB false), .p (.val (.slice none 0 0)), .p (.val (.slice none 0 0))])]) ([(1, [.p (eS c_0.fAddr), .p (eS c_0.fDeposed), .p (eS c_0.fType), .p (eI c_0.fAction), .p (eI c_0.fReason), .p (eI r1.fKind), .p (eI r1.fNum), .p (eS r1.fStr), .p (eL eTValue r1.fItems), .p (eL eS r1.fKeys), .p (eI r3.fKind), .p (eI r3.fNum), .p (eS r3.fStr), .p (eL eTValue r3.fItems), .p (eL eS r3.fKeys), .p (eS c_0.fID), .p (eL eS c_0.fReplace), .p (eB c_0.fCreateFirst), .p (eB c_0.fProtect), .p (eB c_0.fImport), .p (eL eS c_0.fDeps), .p (eL eS c_0.fOldDeps)]), (1, [.p (eS c_0.fAddr), .p (eS c_0.fDeposed), .p (eS c_0.fType), .p (eI c_0.fAction), .p (eI c_0.fReason), .p (eI r1.fKind), .p (eI r1.fNum), .p (eS r1.fStr), .p (eL eTValue r1.fItems), .p (eL eS r1.fKeys), .p (eI r3.fKind), .p (eI r3.fNum), .p (eS r3.fStr), .p (eL eTValue r3.fItems), .p (eL eS r3.fKeys), .p (eS c_0.fID), .p (eL eS c_0.fReplace), .p (eB c_0.fCreateFirst), .p (eB c_0.fProtect), .p (eB c_0.fImport), .p (eL eS c_0.fDeps), .p (eL eS c_0.fOldDeps)]), (2, [.p (eS ([] : Bytes)), .p (eS ([] : Bytes)), .p (eS ([] : Bytes)), .p (eI 0), .p (eI 0), .p (eI 0), .p (eI 0), .p (eS ([] : Bytes)), .p (.val (.slice none 0 0)), .p (.val (.slice none 0 0)), .p (eI 0), .p (eI 0), .p (eS ([] : Bytes)), .p (.val (.slice none 0 0)), .p (.val (.slice none 0 0)), .p (eS ([] : Bytes)), .p (.val (.slice none 0 0)), .p (eB false), .p (eB false), .p (eB false), .p (.val (.slice none 0 0)), .p (.val (.slice none 0 0))])]) ([(1, [.p (eS c_0.fAddr), .p (eS c_0.fDeposed), .p (eS c_0.fType), .p (eI c_0.fAction), .p (eI c_0.fReason), .p (eI r1.fKind), .p (eI r1.fNum), .p (eS r1.fStr), .p (eL eTValue r1.fItems), .p (eL eS r1.fKeys), .p (eI r3.fKind), .p (eI r3.fNum), .p (eS r3.fStr), .p (eL eTValue r3.fItems), .p (eL eS r3.fKeys), .p (eS c_0.fID), .p (eL eS c_0.fReplace), .p (eB c_0.fCreateFirst), .p (eB c_0.fProtect), .p (eB c_0.fImport), .p (eL eS c_0.fDeps), .p (eL eS c_0.fOldDeps)]), (1, [.p (eS c_0.fAddr), .p (eS c_0.fDeposed), .p (eS c_0.fType), .p (eI c_0.fAction), .p (eI c_0.fReason), .p (eI r1.fKind), .p (eI r1.fNum), .p (eS r1.fStr), .p (eL eTValue r1.fItems), .p (eL eS r1.fKeys), .p (eI r3.fKind), .p (eI r3.fNum), .p (eS r3.fStr), .p (eL eTValue r3.fItems), .p (eL eS r3.fKeys), .p (eS c_0.fID), .p (eL eS c_0.fReplace), .p (eB c_0.fCreateFirst), .p (eB c_0.fProtect), .p (eB c_0.fImport), .p (eL eS c_0.fDeps), .p (eL eS c_0.fOldDeps)]), (1, [.p (eS c_0.fAddr), .p (eS c_0.fDeposed), .p (eS c_0.fType), .p (eI c_0.fAction), .p (eI c_0.fReason), .p (eI r1.fKind), .p (eI r1.fNum), .p (eS r1.fStr), .p (eL eTValue r1.fItems), .p (eL eS r1.fKeys), .p (eI r3.fKind), .p (eI r3.fNum), .p (eS r3.fStr), .p (eL eTValue r3.fItems), .p (eL eS r3.fKeys), .p (eS c_0.fID), .p (eL eS c_0.fReplace), .p (eB c_0.fCreateFirst), .p (eB c_0.fProtect), .p (eB c_0.fImport), .p (eL eS c_0.fDeps), .p (eL eS c_0.fOldDeps)]), (2, [.p (eS ([] : Bytes)), .p (eS ([] : Bytes)), .p (eS ([] : Bytes)), .p (eI 0), .p (eI 0), .p (eI 0), .p (eI 0), .p (eS ([] : Bytes)), .p (.val (.slice none 0 0)), .p (.val (.slice none 0 0)), .p (eI 0), .p (eI 0), .p (eS ([] : Bytes)), .p (.val (.slice none 0 0)), .p (.val (.slice none 0 0)), .p (eS ([] : Bytes)), .p (.val (.slice none 0 0)), .p (eB false), .p (eB false), .p (eB false), .p (.val (.slice none 0 0)), .p (.val (.slice none 0 0))])]) ([(1, [.p (eS c_0.fAddr), .p (eS c_0.fDeposed), .p (eS c_0.fType), .p (eI c_0.fAction), .p (eI c_0.fReason), .p (eI r1.fKind), .p (eI r1.fNum), .p (eS r1.fStr), .p (eL eTValue r1.fItems), .p (eL eS r1.fKeys), .p (eI r3.fKind), .p (eI r3.fNum), .p (eS r3.fStr), .p (eL eTValue r3.fItems), .p (eL eS r3.fKeys), .p (eS c_0.fID), .p (eL eS c_0.fReplace), .p (eB c_0.fCreateFirst), .p (eB c_0.fProtect), .p (eB c_0.fImport), .p (eL eS c_0.fDeps), .p (eL eS c_0.fOldDeps)]), (1, [.p (eS c_0.fAddr), .p (eS c_0.fDeposed), .p (eS c_0.fType), .p (eI c_0.fAction), .p (eI c_0.fReason), .p (eI r1.fKind), .p (eI r1.fNum), .p (eS r1.fStr), .p (eL eTValue r1.fItems), .p (eL eS r1.fKeys), .p (eI r3.fKind), .p (eI r3.fNum), .p (eS r3.fStr), .p (eL eTValue r3.fItems), .p (eL eS r3.fKeys), .p (eS c_0.fID), .p (eL eS c_0.fReplace), .p (eB c_0.fCreateFirst), .p (eB c_0.fProtect), .p (eB c_0.fImport), .p (eL eS c_0.fDeps), .p (eL eS c_0.fOldDeps)]), (1, [.p (eS c_0.fAddr), .p (eS c_0.fDeposed), .p (eS c_0.fType), .p (eI c_0.fAction), .p (eI c_0.fReason), .p (eI r1.fKind), .p (eI r1.fNum), .p (eS r1.fStr), .p (eL eTValue r1.fItems), .p (eL eS r1.fKeys), .p (eI r3.fKind), .p (eI r3.fNum), .p (eS r3.fStr), .p (eL eTValue r3.fItems), .p (eL eS r3.fKeys), .p (eS c_0.fID), .p (eL eS c_0.fReplace), .p (eB c_0.fCreateFirst), .p (eB c_0.fProtect), .p (eB c_0.fImport), .p (eL eS c_0.fDeps), .p (eL eS c_0.fOldDeps)]), (1, [.p (eS c_0.fAddr), .p (eS c_0.fDeposed), .p (eS c_0.fType), .p (eI c_0.fAction), .p (eI c_0.fReason), .p (eI r1.fKind), .p (eI r1.fNum), .p (eS r1.fStr), .p (eL eTValue r1.fItems), .p (eL eS r1.fKeys), .p (eI r3.fKind), .p (eI r3.fNum), .p (eS r3.fStr), .p (eL eTValue r3.fItems), .p (eL eS r3.fKeys), .p (eS c_0.fID), .p (eL eS c_0.fReplace), .p (eB c_0.fCreateFirst), .p (eB c_0.fProtect), .p (eB c_0.fImport), .p (eL eS c_0.fDeps), .p (eL eS c_0.fOldDeps)]), (2, [.p (eS ([] : Bytes)), .p (eS ([] : Bytes)), .p (eS ([] : Bytes)), .p (eI 0), .p (eI 0), .p (eI 0), .p (eI 0), .p (eS ([] : Bytes)), .p (.val (.slice none 0 0)), .p (.val (.slice none 0 0)), .p (eI 0), .p (eI 0), .p (eS ([] : Bytes)), .p (.val (.slice none 0 0)), .p (.val (.slice none 0 0)), .p (eS ([] : Bytes)), .p (.val (.slice none 0 0)), .p (eB false), .p (eB false), .p (eB false), .p (.val (.slice none 0 0)), .p (.val (.slice none 0 0))])]))⟩ rfl rfl rfl ⟨rfl, rfl, trivial⟩ (lt3 ⟨rfl, rfl, trivial⟩ ⟨rfl, rfl, trivial⟩ ⟨rfl, rfl, trivial⟩) rfl rfl rfl rfl ?_)
 refine ds_pure (fun _ => .ptr 1 16) rfl rfl rfl (all4 rfl rfl rfl (fun _ => rfl)) (lt3 rfl rfl rfl) (stg_no rfl (stg_no rfl (stg_no rfl (stg_yes [(1, _)] ⟨.inl rfl, trivial⟩ (fun sl hsl K hK => one_op rfl (ok_fieldAddrP rfl rfl rfl rfl rfl rfl rfl rfl (hsl _ _ rfl) hK)) stg_nil)))) (ds_pure (fun _ => .p (eL eS c_0.fReplace)) rfl rfl rfl (all4 rfl rfl rfl (fun _ => rfl)) (lt3 rfl rfl rfl) (stg_no rfl (stg_no rfl (stg_no rfl (stg_yes [(11, _)] ⟨.inr ⟨0, _, rfl, rfl, rfl⟩, trivial⟩ (fun sl hsl K hK => one_op rfl (ok_loadP1 rfl rfl rfl rfl rfl (hsl _ _ rfl) rfl rfl hK)) stg_nil)))) ?_)
 refine ds_pure (fun _ => .p (eL eS c_0.fReplace)) rfl rfl rfl (all4 rfl rfl rfl (fun _ => rfl)) (lt3 rfl rfl rfl) (stg_no rfl (stg_no rfl (stg_no rfl (stg_yes [(12, _)] ⟨.inr ⟨1, _, rfl, rfl, rfl⟩, trivial⟩ (fun sl hsl K hK => one_op rfl (ok_callP (slices_Clone_string_string_ok c_0.fReplace hk5) rfl rfl rfl (args_cons (hsl _ _ rfl) args_nil) ⟨sr, trivial⟩ Tryz.call65 rfl hK)) stg_nil)))) (ds_pure (fun _ => .ptr 1 20) rfl rfl rfl (all4 rfl rfl rfl (fun _ => rfl)) (lt3 rfl rfl rfl) (stg_no rfl (stg_no rfl (stg_no rfl (stg_yes [(1, _)] ⟨.inl rfl, trivial⟩ (fun sl hsl K hK => one_op rfl (ok_fieldAddrP rfl rfl rfl rfl rfl rfl rfl rfl (hsl _ _ rfl) hK)) stg_nil)))) ?_)
 refine ds_pure (fun _ => .p (eL eS c_0.fDeps)) rfl rfl rfl (all4 rfl rfl rfl (fun _ => rfl)) (lt3 rfl rfl rfl) (stg_no rfl (stg_no rfl (stg_no rfl (stg_yes [(14, _)] ⟨.inr ⟨3, _, rfl, rfl, rfl⟩, trivial⟩ (fun sl hsl K hK => one_op rfl (ok_loadP1 rfl rfl rfl rfl rfl (hsl _ _ rfl) rfl rfl hK)) stg_nil)))) (ds_pure (fun _ => .p (eL eS c_0.fDeps)) rfl rfl rfl (all4 rfl rfl rfl (fun _ => rfl)) (lt3 rfl rfl rfl) (stg_no rfl (stg_no rfl (stg_yes [(15, _)] ⟨.inr ⟨4, _, rfl, rfl, rfl⟩, trivial⟩ (fun sl hsl K hK => one_op rfl (ok_callP (slices_Clone_string_string_ok c_0.fDeps hk6) rfl rfl rfl (args_cons (hsl _ _ rfl) args_nil) ⟨sr, trivial⟩ Tryz.call65 rfl hK)) (stg_yes [(15, _)] ⟨.inr ⟨4, _, rfl, rfl, rfl⟩, trivial⟩ (fun sl hsl K hK => one_op rfl (ok_callP (slices_Clone_string_string_ok c_0.fDeps hk6) rfl rfl rfl (args_cons (hsl _ _ rfl) args_nil) ⟨sr, trivial⟩ Tryz.call65 rfl hK)) stg_nil)))) ?_)
 refine ds_pure (fun _ => .ptr 1 21) rfl rfl rfl (all4 rfl rfl rfl (fun _ => rfl)) (lt3 rfl rfl rfl) (stg_no rfl (stg_no rfl (stg_no rfl (stg_yes [(1, _)] ⟨.inl rfl, trivial⟩ (fun sl hsl K hK => one_op rfl (ok_fieldAddrP rfl rfl rfl rfl rfl rfl rfl rfl (hsl _ _ rfl) hK)) stg_nil)))) (ds_pure (fun _ => .p (eL eS c_0.fOldDeps)) rfl rfl rfl (all4 rfl rfl rfl (fun _ => rfl)) (lt3 rfl rfl rfl) (stg_no rfl (stg_no rfl (stg_no rfl (stg_yes [(17, _)] ⟨.inr ⟨6, _, rfl, rfl, rfl⟩, trivial⟩ (fun sl hsl K hK => one_op rfl (ok_loadP1 rfl rfl rfl rfl rfl (hsl _ _ rfl) rfl rfl hK)) stg_nil)))) ?_)
 refine ds_pure (fun _ => .p (eL eS c_0.fOldDeps)) rfl rfl rfl (all4 rfl rfl rfl (fun _ => rfl)) (lt3 rfl rfl rfl) (stg_no rfl (stg_no rfl (stg_no rfl (stg_yes [(18, _)] ⟨.inr ⟨7, _, rfl, rfl, rfl⟩, trivial⟩ (fun sl hsl K hK => one_op rfl (ok_callP (slices_Clone_string_string_ok c_0.fOldDeps hk7) rfl rfl rfl (args_cons (hsl _ _ rfl) args_nil) ⟨sr, trivial⟩ Tryz.call65 rfl hK)) stg_nil)))) (ds_pure (fun _ => .ptr 1 16) rfl rfl rfl (all4 rfl rfl rfl (fun _ => rfl)) (lt3 rfl rfl rfl) (stg_no rfl (stg_no rfl (stg_no rfl (stg_yes [(1, _)] ⟨.inl rfl, trivial⟩ (fun sl hsl K hK => one_op rfl (ok_fieldAddrP rfl rfl rfl rfl rfl rfl rfl rfl (hsl _ _ rfl) hK)) stg_nil)))) ?_)
 refine ds_store [(13, _), (20, _)] rfl ⟨.inr ⟨2, _, rfl, rfl, rfl⟩, .inr ⟨9, _, rfl, rfl, rfl⟩, trivial⟩ rfl (fun sl hsl K hK => one_op rfl (ok_store rfl rfl rfl (hsl _ _ rfl) (hsl _ _ rfl) rfl rfl rfl (Nat.le_of_ble_eq_true rfl) hK)) (ds_pure (fun _ => .ptr 1 20) rfl rfl rfl (all4 rfl rfl rfl (fun _ => rfl)) (lt3 rfl rfl rfl) (stg_no rfl (stg_no rfl (stg_yes [(1, _)] ⟨.inl rfl, trivial⟩ (fun sl hsl K hK => one_op rfl (ok_fieldAddrP rfl rfl rfl rfl rfl rfl rfl rfl (hsl _ _ rfl) hK)) (stg_no rfl stg_nil)))) ?_)
 refine ds_store [(16, _), (21, _)] rfl ⟨.inr ⟨5, _, rfl, rfl, rfl⟩, .inr ⟨11, _, rfl, rfl, rfl⟩, trivial⟩ rfl (fun sl hsl K hK => one_op rfl (ok_store rfl rfl rfl (hsl _ _ rfl) (hsl _ _ rfl) rfl rfl rfl (Nat.le_of_ble_eq_true rfl) hK)) (ds_pure (fun _ => .ptr 1 21) rfl rfl rfl (all4 rfl rfl rfl (fun _ => rfl)) (lt3 rfl rfl rfl) (stg_no rfl (stg_yes [(1, _)] ⟨.inl rfl, trivial⟩ (fun sl hsl K hK => one_op rfl (ok_fieldAddrP rfl rfl rfl rfl rfl rfl rfl rfl (hsl _ _ rfl) hK)) (stg_no rfl (stg_no rfl stg_nil)))) ?_)
 refine ds_store [(19, _), (22, _)] rfl ⟨.inr ⟨8, _, rfl, rfl, rfl⟩, .inr ⟨13, _, rfl, rfl, rfl⟩, trivial⟩ rfl (fun sl hsl K hK => one_op rfl (ok_store rfl rfl rfl (hsl _ _ rfl) (hsl _ _ rfl) rfl rfl rfl (Nat.le_of_ble_eq_true rfl) hK)) (ds_nil ?_)
 exact nx 7 rfl (mQ (oi h0) rfl (sr))

def target_Filter_l1 (n : Nat) (l_1 : List TChange) : Nat → Int → (List Bytes) → Option (List Bytes)
 | 0, _, _ => none
 | m + 1, t11, l12 =>
 if t11 < (l_1.length : Int) then
  ck ((0 : Int) ≤ t11 ∧ t11 < (l_1.length : Int)) <|
  (address_Static n ((lat l_1 t11).fAddr)).bind fun r15 =>
  ck ((0 : Int) ≤ t11 ∧ t11 < (l12.length : Int)) <|
  ck (inR (t11 + 1)) <|
  target_Filter_l1 n l_1 m (t11 + 1) (l12.set t11.toNat r15.1)
 else
  some l12

def target_Filter_l2 (n : Nat) (targets_0 : List Bytes) (l_1 : List TChange) : Nat → Int → (List TChange) → (List Int) → (List Bytes) → (List Bool) → Option ((List TChange) × (List Int) × (List Bytes) × (List Bool))
 | 0, _, _, _, _, _ => none
 | m + 1, t39, f40, f41, l42, l43 =>
 if t39 < (l_1.length : Int) then
  (
    ck ((0 : Int) ≤ t39 ∧ t39 < (l_1.length : Int)) <|
    (target_Selected n targets_0 ((lat l_1 t39).fAddr)).bind fun r46 =>
    if r46 = true then
     (target_chooser_choose (Tchooser.mk f40 l42 l43 f41) t39).bind fun r49 =>
     some (r49.fchanges, r49.ftodo, r49.fresources, r49.fchosen)
    else
     some (f40, f41, l42, l43)
   : Option ((List TChange) × (List Int) × (List Bytes) × (List Bool))).bind fun q122 =>
  ck (inR (t39 + 1)) <|
  target_Filter_l2 n targets_0 l_1 m (t39 + 1) q122.1 q122.2.1 q122.2.2.1 q122.2.2.2
 else
  some (f40, f41, l42, l43)

def target_Filter_l3 (n : Nat) : Nat → (List TChange) → (List Int) → (List Bytes) → (List Bool) → Option ((List TChange) × (List Int) × (List Bytes) × (List Bool))
 | 0, _, _, _, _ => none
 | m + 1, f76, f77, l78, l79 =>
 if 0 < (f77.length : Int) then
  ck (inR ((f77.length : Int) - 1)) <|
  ck ((0 : Int) ≤ (f77.length : Int) - 1 ∧ (f77.length : Int) - 1 < (f77.length : Int)) <|
  ck (inR ((f77.length : Int) - 1)) <|
  ck ((0 : Int) ≤ (f77.length : Int) - 1 ∧ (f77.length : Int) - 1 ≤ (f77.length : Int)) <|
  (target_chooser_follow n (Tchooser.mk f76 l78 l79 (f77.take ((f77.length : Int) - 1).toNat)) (lat f77 ((f77.length : Int) - 1))).bind fun r85 =>
  target_Filter_l3 n m r85.fchanges r85.ftodo r85.fresources r85.fchosen
 else
  some (f76, f77, l78, l79)

def target_Filter_l4 (n : Nat) (l_1 : List TChange) (l94 : List Bool) : Nat → (List TChange) → Int → Option (List TChange)
 | 0, _, _ => none
 | m + 1, out106, t107 =>
 if t107 < (l_1.length : Int) then
  (
    ck ((0 : Int) ≤ t107 ∧ t107 < (l_1.length : Int)) <|
    ck ((0 : Int) ≤ t107 ∧ t107 < (l94.length : Int)) <|
    if (lat l94 t107) = true then
     (target_change n (lat l_1 t107)).bind fun r112 =>
     ck ((out106.length + [r112].length) * 320 ≤ 140737488355328) <|
     some (out106 ++ [r112])
    else
     some out106
   : Option (List TChange)).bind fun out115 =>
  ck (inR (t107 + 1)) <|
  target_Filter_l4 n l_1 l94 m out115 (t107 + 1)
 else
  some out106

def target_Filter (n : Nat) (targets_0 : List Bytes) (l_1 : List TChange) : Option (List TChange) :=
 ck ((0 : Int) ≤ (l_1.length : Int) ∧ (l_1.length : Int) ≤ 9223372036854775807 ∧ (16 : Int) * (l_1.length : Int) ≤ 281474976710656) <|
 ck ((0 : Int) ≤ (l_1.length : Int) ∧ (l_1.length : Int) ≤ 9223372036854775807 ∧ (1 : Int) * (l_1.length : Int) ≤ 281474976710656) <|
 (target_Filter_l1 n l_1 n 0 (List.replicate (l_1.length : Int).toNat ([] : Bytes))).bind fun l21 =>
 (target_Filter_l2 n targets_0 l_1 n 0 l_1 [] l21 (List.replicate (l_1.length : Int).toNat (false : Bool))).bind fun q121 =>
 (target_Filter_l3 n n q121.1 q121.2.1 q121.2.2.1 q121.2.2.2).bind fun q123 =>
 (target_Filter_l4 n l_1 q123.2.2.2 n [] 0).bind fun out119 =>
 some out119

set_option maxHeartbeats 4000000 in
theorem target_Filter_ok (n : Nat) (targets_0 : List Bytes) (l_1 : List TChange) (r : (List TChange)) (h0 : target_Filter n targets_0 l_1 = some r) : PCalls Tryz.prog 23 [eL eS targets_0, eL eTChange l_1] (· = .p (eL eTChange r)) := by
 unfold target_Filter at h0
 refine pbodyA good Tryz.func23 rfl rfl rfl fun w0 => mP (fun v : (List TChange) => .p (eL eTChange v)) ?_
 refine nx 5 rfl (cc' h0 fun hk1 h0 => ?_)
 refine cc' h0 fun hk2 h0 => mG (gE (t := ⟨[(0, .p (eL eS targets_0)), (1, .p (eL eTChange l_1))], []⟩) rfl rfl) (mSS ⟨5, [3, 6, 7, 8, 9], (by6 (.some fun i => Nat.beq i 17) (.some fun i => Nat.beq i 20) .none (.some fun i => Nat.beq i 22) .none .none), (fun _ => [(0, .p (eL eS targets_0)), (1, .p (eL eTChange l_1))]), (by6 [] ([(17, ((List.replicate (l_1.length : Int).toNat ([] : Bytes)).map eS).map .p)]) ([(20, ((List.replicate (l_1.length : Int).toNat (false : Bool)).map eB).map .p), (17, ((List.replicate (l_1.length : Int).toNat ([] : Bytes)).map eS).map .p)]) ([(20, ((List.replicate (l_1.length : Int).toNat (false : Bool)).map eB).map .p), (17, ((List.replicate (l_1.length : Int).toNat ([] : Bytes)).map eS).map .p)]) ([(22, [.p (eL eTChange l_1), .arr 17 1 0 ((List.replicate (l_1.length : Int).toNat ([] : Bytes)).length), .arr 20 1 0 ((List.replicate (l_1.length : Int).toNat (false : Bool)).length), .p (.val (.slice none 0 0))]), (20, ((List.replicate (l_1.length : Int).toNat (false : Bool)).map eB).map .p), (17, ((List.replicate (l_1.length : Int).toNat ([] : Bytes)).map eS).map .p)]) ([(22, [.p (eL eTChange l_1), .arr 17 1 0 ((List.replicate (l_1.length : Int).toNat ([] : Bytes)).length), .arr 20 1 0 ((List.replicate (l_1.length : Int).toNat (false : Bool)).length), .p (.val (.slice none 0 0))]), (20, ((List.replicate (l_1.length : Int).toNat (false : Bool)).map eB).map .p), (17, ((List.replicate (l_1.length : Int).toNat ([] : Bytes)).map eS).map .p)]))⟩ ⟨5, [6, 3, 7, 8, 9], (by6 (.some fun i => Nat.beq i 20) (.some fun i => Nat.beq i 17) .none (.some fun i => Nat.beq i 22) .none .none), (fun _ => [(0, .p (eL eS targets_0)), (1, .p (eL eTChange l_1))]), (by6 [] [(20, ((List.replicate (l_1.length : Int).toNat (false : Bool)).map eB).map .p)] ([(17, ((List.replicate (l_1.length : Int).toNat ([] : Bytes)).map eS).map .p), (20, ((List.replicate (l_1.length : Int).toNat (false : Bool)).map eB).map .p)]) ([(17, ((List.replicate (l_1.length : Int).toNat ([] : Bytes)).map eS).map .p), (20, ((List.replicate (l_1.length : Int).toNat (false : Bool)).map eB).map .p)]) ([(22, [.p (eL eTChange l_1), .arr 17 1 0 ((List.replicate (l_1.length : Int).toNat ([] : Bytes)).length), .arr 20 1 0 ((List.replicate (l_1.length : Int).toNat (false : Bool)).length), .p (.val (.slice none 0 0))]), (17, ((List.replicate (l_1.length : Int).toNat ([] : Bytes)).map eS).map .p), (20, ((List.replicate (l_1.length : Int).toNat (false : Bool)).map eB).map .p)]) ([(22, [.p (eL eTChange l_1), .arr 17 1 0 ((List.replicate (l_1.length : Int).toNat ([] : Bytes)).length), .arr 20 1 0 ((List.replicate (l_1.length : Int).toNat (false : Bool)).length), .p (.val (.slice none 0 0))]), (17, ((List.replicate (l_1.length : Int).toNat ([] : Bytes)).map eS).map .p), (20, ((List.replicate (l_1.length : Int).toNat (false : Bool)).map eB).map .p)]))⟩ rfl rfl rfl rfl rfl rfl rfl ⟨rfl, rfl, trivial⟩ rfl (lt5 ⟨rfl, rfl, trivial⟩ ⟨rfl, rfl, trivial⟩ ⟨rfl, rfl, trivial⟩ ⟨rfl, rfl, trivial⟩ ⟨rfl, rfl, trivial⟩) (lt5 ⟨rfl, rfl, trivial⟩ ⟨rfl, rfl, trivial⟩ ⟨rfl, rfl, trivial⟩ ⟨rfl, rfl, trivial⟩ ⟨rfl, rfl, trivial⟩) rfl rfl rfl rfl rfl ?_)
 refine ds_pure (fun _ => .p (eL eTChange l_1)) rfl rfl rfl (all6 rfl rfl rfl rfl rfl (fun _ => rfl)) (lt5 rfl rfl rfl rfl rfl) (stg_no rfl (stg_no rfl (stg_no rfl (stg_yes [(1, _)] ⟨.inl rfl, trivial⟩ (fun sl hsl K hK => one_op rfl (ok_move rfl rfl rfl (hsl _ _ rfl) hK)) (stg_yes [(1, _)] ⟨.inl rfl, trivial⟩ (fun sl hsl K hK => one_op rfl (ok_move rfl rfl rfl (hsl _ _ rfl) hK)) (stg_yes [(1, _)] ⟨.inl rfl, trivial⟩ (fun sl hsl K hK => one_op rfl (ok_move rfl rfl rfl (hsl _ _ rfl) hK)) stg_nil)))))) (ds_pure (fun _ => .p (eL eTChange l_1)) rfl rfl rfl (all6 rfl rfl rfl rfl rfl (fun _ => rfl)) (lt5 rfl rfl rfl rfl rfl) (stg_no rfl (stg_yes [(1, _)] ⟨.inl rfl, trivial⟩ (fun sl hsl K hK => one_op rfl (ok_move rfl rfl rfl (hsl _ _ rfl) hK)) (stg_yes [(1, _)] ⟨.inl rfl, trivial⟩ (fun sl hsl K hK => one_op rfl (ok_move rfl rfl rfl (hsl _ _ rfl) hK)) (stg_yes [(1, _)] ⟨.inl rfl, trivial⟩ (fun sl hsl K hK => one_op rfl (ok_move rfl rfl rfl (hsl _ _ rfl) hK)) (stg_yes [(1, _)] ⟨.inl rfl, trivial⟩ (fun sl hsl K hK => one_op rfl (ok_move rfl rfl rfl (hsl _ _ rfl) hK)) (stg_yes [(1, _)] ⟨.inl rfl, trivial⟩ (fun sl hsl K hK => one_op rfl (ok_move rfl rfl rfl (hsl _ _ rfl) hK)) stg_nil)))))) ?_)
 refine ds_pure (fun _ => .p (eI (l_1.length : Int))) rfl rfl rfl (all6 rfl rfl rfl rfl rfl (fun _ => rfl)) (lt5 rfl rfl rfl rfl rfl) (stg_no rfl (stg_no rfl (stg_no rfl (stg_no rfl (stg_no rfl (stg_yes [(15, _)] ⟨.inr ⟨1, _, rfl, rfl, rfl⟩, trivial⟩ (fun sl hsl K hK => one_op rfl (op_lenL (f := eTChange) (l := l_1) rfl rfl rfl rfl rfl (hsl _ _ rfl) rfl hK)) stg_nil)))))) ?_
 skip; refine ds_imp (fun _ => .arr 17 1 0 ((List.replicate (l_1.length : Int).toNat ([] : Bytes)).length)) [(16, _)] rfl ⟨.inr ⟨2, _, rfl, rfl, rfl⟩, trivial⟩ rfl rfl (all5 rfl rfl rfl rfl (fun _ => rfl)) (lt5 (fun h => absurd h (by decide)) (fun _ => rfl) (fun _ => rfl) (fun _ => rfl) (fun _ => rfl)) (fun sl hsl K hK => one_op rfl (op_makeO eS ([] : Bytes) rfl rfl rfl rfl rfl rfl rfl rfl rfl (hsl _ _ rfl) (hsl _ _ rfl) hk1 (by repeat (first | exact rfl | apply dmO_row rfl | apply dmO_drop rfl | apply dmO_one rfl rfl)) hK)) ?_
 refine ds_pure (fun _ => .p (eL eTChange l_1)) rfl rfl rfl (all6 rfl rfl rfl rfl rfl (fun _ => rfl)) (lt5 rfl rfl rfl rfl rfl) (stg_no rfl (stg_yes [(1, _)] ⟨.inl rfl, trivial⟩ (fun sl hsl K hK => one_op rfl (ok_move rfl rfl rfl (hsl _ _ rfl) hK)) (stg_yes [(1, _)] ⟨.inl rfl, trivial⟩ (fun sl hsl K hK => one_op rfl (ok_move rfl rfl rfl (hsl _ _ rfl) hK)) (stg_yes [(1, _)] ⟨.inl rfl, trivial⟩ (fun sl hsl K hK => one_op rfl (ok_move rfl rfl rfl (hsl _ _ rfl) hK)) (stg_yes [(1, _)] ⟨.inl rfl, trivial⟩ (fun sl hsl K hK => one_op rfl (ok_move rfl rfl rfl (hsl _ _ rfl) hK)) (stg_yes [(1, _)] ⟨.inl rfl, trivial⟩ (fun sl hsl K hK => one_op rfl (ok_move rfl rfl rfl (hsl _ _ rfl) hK)) stg_nil)))))) (ds_pure (fun _ => .p (eI (l_1.length : Int))) rfl rfl rfl (all6 rfl rfl rfl rfl rfl (fun _ => rfl)) (lt5 rfl rfl rfl rfl rfl) (stg_no rfl (stg_no rfl (stg_no rfl (stg_no rfl (stg_yes [(18, _)] ⟨.inr ⟨4, _, rfl, rfl, rfl⟩, trivial⟩ (fun sl hsl K hK => one_op rfl (op_lenL (f := eTChange) (l := l_1) rfl rfl rfl rfl rfl (hsl _ _ rfl) rfl hK)) (stg_yes [(18, _)] ⟨.inr ⟨4, _, rfl, rfl, rfl⟩, trivial⟩ (fun sl hsl K hK => one_op rfl (op_lenL (f := eTChange) (l := l_1) rfl rfl rfl rfl rfl (hsl _ _ rfl) rfl hK)) stg_nil)))))) ?_)
 skip; refine ds_imp (fun _ => .arr 20 1 0 ((List.replicate (l_1.length : Int).toNat (false : Bool)).length)) [(19, _)] rfl ⟨.inr ⟨5, _, rfl, rfl, rfl⟩, trivial⟩ rfl rfl (all4 rfl rfl rfl (fun _ => rfl)) (lt5 (fun h => absurd h (by decide)) (fun h => absurd h (by decide)) (fun _ => rfl) (fun _ => rfl) (fun _ => rfl)) (fun sl hsl K hK => one_op rfl (op_makeO eB (false : Bool) rfl rfl rfl rfl rfl rfl rfl rfl rfl (hsl _ _ rfl) (hsl _ _ rfl) hk2 (by repeat (first | exact rfl | apply dmO_row rfl | apply dmO_drop rfl | apply dmO_one rfl rfl)) hK)) ?_
 refine ds_imp (fun _ => .agg [.p (eL eTChange l_1), .arr 17 1 0 ((List.replicate (l_1.length : Int).toNat ([] : Bytes)).length), .arr 20 1 0 ((List.replicate (l_1.length : Int).toNat (false : Bool)).length), .p (.val (.slice none 0 0))]) [(14, _), (17, _), (20, _)] rfl ⟨.inr ⟨0, _, rfl, rfl, rfl⟩, .inr ⟨3, _, rfl, rfl, rfl⟩, .inr ⟨6, _, rfl, rfl, rfl⟩, trivial⟩ rfl rfl (all3 rfl rfl (fun _ => rfl)) (lt5 (fun h => absurd h (by decide)) (fun h => absurd h (by decide)) (fun h => absurd h (by decide)) (fun _ => rfl) (fun _ => rfl)) (fun sl hsl K hK => one_op rfl (ok_build rfl rfl rfl rfl rfl rfl (parts_cons (hsl _ _ rfl) (parts_cons (hsl _ _ rfl) (parts_cons (hsl _ _ rfl) parts_nil))) rfl rfl hK)) ?_
 skip; refine ds_imp (fun _ => .ptr 22 0) [(21, _)] rfl ⟨.inr ⟨7, _, rfl, rfl, rfl⟩, trivial⟩ rfl rfl (all2 rfl (fun _ => rfl)) (lt5 (fun h => absurd h (by decide)) (fun h => absurd h (by decide)) (fun h => absurd h (by decide)) (fun h => absurd h (by decide)) (fun _ => rfl)) (fun sl hsl K hK => one_op rfl (ok_boxO rfl rfl rfl (hsl _ _ rfl) rfl rfl (by repeat (first | exact rfl | apply dmO_row rfl | apply dmO_drop rfl | apply dmO_one rfl rfl)) hK)) ?_
 refine ds_imp (fun _ => .ptr 22 0) [(22, _)] rfl ⟨.inr ⟨8, _, rfl, rfl, rfl⟩, trivial⟩ rfl rfl (fun _ => rfl) (lt5 (fun h => absurd h (by decide)) (fun h => absurd h (by decide)) (fun h => absurd h (by decide)) (fun h => absurd h (by decide)) (fun h => absurd h (by decide))) (fun sl hsl K hK => one_op rfl (ok_assign rfl rfl rfl (hsl _ _ rfl) hK)) ?_
 skip; refine ds_one (ds_pure (fun _ => .p (eL eTChange l_1)) rfl rfl rfl (all6 rfl rfl rfl rfl rfl (fun _ => rfl)) (lt5 rfl rfl rfl rfl rfl) (stg_no rfl (stg_no rfl (stg_no rfl (stg_yes [(1, _)] ⟨.inl rfl, trivial⟩ (fun sl hsl K hK => one_op rfl (ok_move rfl rfl rfl (hsl _ _ rfl) hK)) (stg_yes [(1, _)] ⟨.inl rfl, trivial⟩ (fun sl hsl K hK => one_op rfl (ok_move rfl rfl rfl (hsl _ _ rfl) hK)) (stg_yes [(1, _)] ⟨.inl rfl, trivial⟩ (fun sl hsl K hK => one_op rfl (ok_move rfl rfl rfl (hsl _ _ rfl) hK)) stg_nil)))))) (ds_pure (fun _ => .p (eL eTChange l_1)) rfl rfl rfl (all6 rfl rfl rfl rfl rfl (fun _ => rfl)) (lt5 rfl rfl rfl rfl rfl) (stg_no rfl (stg_yes [(1, _)] ⟨.inl rfl, trivial⟩ (fun sl hsl K hK => one_op rfl (ok_move rfl rfl rfl (hsl _ _ rfl) hK)) (stg_yes [(1, _)] ⟨.inl rfl, trivial⟩ (fun sl hsl K hK => one_op rfl (ok_move rfl rfl rfl (hsl _ _ rfl) hK)) (stg_yes [(1, _)] ⟨.inl rfl, trivial⟩ (fun sl hsl K hK => one_op rfl (ok_move rfl rfl rfl (hsl _ _ rfl) hK)) (stg_yes [(1, _)] ⟨.inl rfl, trivial⟩ (fun sl hsl K hK => one_op rfl (ok_move rfl rfl rfl (hsl _ _ rfl) hK)) (stg_yes [(1, _)] ⟨.inl rfl, trivial⟩ (fun sl hsl K hK => one_op rfl (ok_move rfl rfl rfl (hsl _ _ rfl) hK)) stg_nil)))))) (ds_pure (fun _ => .p (eI (l_1.length : Int))) rfl rfl rfl (all6 rfl rfl rfl rfl rfl (fun _ => rfl)) (lt5 rfl rfl rfl rfl rfl) (stg_no rfl (stg_no rfl (stg_no rfl (stg_no rfl (stg_yes [(15, _)] ⟨.inr ⟨1, _, rfl, rfl, rfl⟩, trivial⟩ (fun sl hsl K hK => one_op rfl (op_lenL (f := eTChange) (l := l_1) rfl rfl rfl rfl rfl (hsl _ _ rfl) rfl hK)) (stg_yes [(15, _)] ⟨.inr ⟨1, _, rfl, rfl, rfl⟩, trivial⟩ (fun sl hsl K hK => one_op rfl (op_lenL (f := eTChange) (l := l_1) rfl rfl rfl rfl rfl (hsl _ _ rfl) rfl hK)) stg_nil)))))) (ds_imp (fun _ => .arr 17 1 0 ((List.replicate (l_1.length : Int).toNat ([] : Bytes)).length)) [(16, _)] rfl ⟨.inr ⟨2, _, rfl, rfl, rfl⟩, trivial⟩ rfl rfl (all4 rfl rfl rfl (fun _ => rfl)) (lt5 (fun h => absurd h (by decide)) (fun h => absurd h (by decide)) (fun _ => rfl) (fun _ => rfl) (fun _ => rfl)) (fun sl hsl K hK => one_op rfl (op_makeO eS ([] : Bytes) rfl rfl rfl rfl rfl rfl rfl rfl rfl (hsl _ _ rfl) (hsl _ _ rfl) hk1 (by repeat (first | exact rfl | apply dmO_row rfl | apply dmO_drop rfl | apply dmO_one rfl rfl)) hK)) (ds_pure (fun _ => .p (eL eTChange l_1)) rfl rfl rfl (all6 rfl rfl rfl rfl rfl (fun _ => rfl)) (lt5 rfl rfl rfl rfl rfl) (stg_no rfl (stg_yes [(1, _)] ⟨.inl rfl, trivial⟩ (fun sl hsl K hK => one_op rfl (ok_move rfl rfl rfl (hsl _ _ rfl) hK)) (stg_yes [(1, _)] ⟨.inl rfl, trivial⟩ (fun sl hsl K hK => one_op rfl (ok_move rfl rfl rfl (hsl _ _ rfl) hK)) (stg_yes [(1, _)] ⟨.inl rfl, trivial⟩ (fun sl hsl K hK => one_op rfl (ok_move rfl rfl rfl (hsl _ _ rfl) hK)) (stg_yes [(1, _)] ⟨.inl rfl, trivial⟩ (fun sl hsl K hK => one_op rfl (ok_move rfl rfl rfl (hsl _ _ rfl) hK)) (stg_yes [(1, _)] ⟨.inl rfl, trivial⟩ (fun sl hsl K hK => one_op rfl (ok_move rfl rfl rfl (hsl _ _ rfl) hK)) stg_nil)))))) (ds_pure (fun _ => .p (eI (l_1.length : Int))) rfl rfl rfl (all6 rfl rfl rfl rfl rfl (fun _ => rfl)) (lt5 rfl rfl rfl rfl rfl) (stg_no rfl (stg_no rfl (stg_no rfl (stg_no rfl (stg_no rfl (stg_yes [(18, _)] ⟨.inr ⟨4, _, rfl, rfl, rfl⟩, trivial⟩ (fun sl hsl K hK => one_op rfl (op_lenL (f := eTChange) (l := l_1) rfl rfl rfl rfl rfl (hsl _ _ rfl) rfl hK)) stg_nil)))))) (ds_imp (fun _ => .arr 20 1 0 ((List.replicate (l_1.length : Int).toNat (false : Bool)).length)) [(19, _)] rfl ⟨.inr ⟨5, _, rfl, rfl, rfl⟩, trivial⟩ rfl rfl (all5 rfl rfl rfl rfl (fun _ => rfl)) (lt5 (fun h => absurd h (by decide)) (fun _ => rfl) (fun _ => rfl) (fun _ => rfl) (fun _ => rfl)) (fun sl hsl K hK => one_op rfl (op_makeO eB (false : Bool) rfl rfl rfl rfl rfl rfl rfl rfl rfl (hsl _ _ rfl) (hsl _ _ rfl) hk2 (by repeat (first | exact rfl | apply dmO_row rfl | apply dmO_drop rfl | apply dmO_one rfl rfl)) hK)) (ds_imp (fun _ => .agg [.p (eL eTChange l_1), .arr 17 1 0 ((List.replicate (l_1.length : Int).toNat ([] : Bytes)).length), .arr 20 1 0 ((List.replicate (l_1.length : Int).toNat (false : Bool)).length), .p (.val (.slice none 0 0))]) [(14, _), (17, _), (20, _)] rfl ⟨.inr ⟨0, _, rfl, rfl, rfl⟩, .inr ⟨3, _, rfl, rfl, rfl⟩, .inr ⟨6, _, rfl, rfl, rfl⟩, trivial⟩ rfl rfl (all3 rfl rfl (fun _ => rfl)) (lt5 (fun h => absurd h (by decide)) (fun h => absurd h (by decide)) (fun h => absurd h (by decide)) (fun _ => rfl) (fun _ => rfl)) (fun sl hsl K hK => one_op rfl (ok_build rfl rfl rfl rfl rfl rfl (parts_cons (hsl _ _ rfl) (parts_cons (hsl _ _ rfl) (parts_cons (hsl _ _ rfl) parts_nil))) rfl rfl hK)) (ds_imp (fun _ => .ptr 22 0) [(21, _)] rfl ⟨.inr ⟨7, _, rfl, rfl, rfl⟩, trivial⟩ rfl rfl (all2 rfl (fun _ => rfl)) (lt5 (fun h => absurd h (by decide)) (fun h => absurd h (by decide)) (fun h => absurd h (by decide)) (fun h => absurd h (by decide)) (fun _ => rfl)) (fun sl hsl K hK => one_op rfl (ok_boxO rfl rfl rfl (hsl _ _ rfl) rfl rfl (by repeat (first | exact rfl | apply dmO_row rfl | apply dmO_drop rfl | apply dmO_one rfl rfl)) hK)) (ds_imp (fun _ => .ptr 22 0) [(22, _)] rfl ⟨.inr ⟨8, _, rfl, rfl, rfl⟩, trivial⟩ rfl rfl (fun _ => rfl) (lt5 (fun h => absurd h (by decide)) (fun h => absurd h (by decide)) (fun h => absurd h (by decide)) (fun h => absurd h (by decide)) (fun h => absurd h (by decide))) (fun sl hsl K hK => one_op rfl (ok_assign rfl rfl rfl (hsl _ _ rfl) hK)) (ds_two rfl ⟨rfl, rfl, rfl, trivial⟩ ⟨⟨rfl, rfl, .inl rfl⟩, ⟨⟨rfl, rfl, .inl rfl⟩, ⟨⟨rfl, rfl, .inl rfl⟩, ⟨⟨rfl, rfl, .inl rfl⟩, ⟨⟨rfl, rfl, .inr rfl⟩, ⟨⟨rfl, rfl, .inr rfl⟩, ⟨⟨rfl, rfl, .inl rfl⟩, ⟨⟨rfl, rfl, .inr rfl⟩, ⟨⟨rfl, rfl, .inr rfl⟩, ⟨⟨rfl, rfl, .inr rfl⟩, trivial⟩⟩⟩⟩⟩⟩⟩⟩⟩⟩))))))))))) ?_
 refine nx 5 rfl (oLl (f := eTChange) rfl rfl ?_)
 refine nx 3 rfl (bd h0 fun o126 h1 h0 => ?_)
 refine kE 0 o126 (fun v127 => ⟨[(0, .p (eL eS targets_0)), (1, .p (eL eTChange l_1)), (5, .ptr 22 0)], [(22, [.p (eL eTChange l_1), .arr 17 1 0 v127.length, .arr 20 1 0 ((List.replicate (l_1.length : Int).toNat (false : Bool)).length), .p (.val (.slice none 0 0))]), (17, (v127.map eS).map .p), (20, ((List.replicate (l_1.length : Int).toNat (false : Bool)).map eB).map .p)]⟩) ?_ ?_
 ·refine nx 5 rfl (oLl (f := eTChange) rfl rfl ?_)
  refine nx 3 rfl (bd h0 fun o128 h1 h0 => ?_)
  refine kE 2 o128 (fun v129 => ⟨[(1, .p (eL eTChange l_1)), (5, .ptr 22 0)], [(22, [.p (eL eTChange v129.1), .arr 17 1 0 v129.2.2.1.length, .arr 20 1 0 v129.2.2.2.length, .stk 101000 1 (v129.2.1.map eI)]), (17, (v129.2.2.1.map eS).map .p), (20, (v129.2.2.2.map eB).map .p)]⟩) ?_ ?_
  ·refine nx 3 rfl (bd h0 fun o130 h1 h0 => ?_)
   refine kE 4 o130 (fun v131 => ⟨[(1, .p (eL eTChange l_1)), (5, .ptr 22 0)], [(22, [.p (eL eTChange v131.1), .arr 17 1 0 v131.2.2.1.length, .arr 20 1 0 v131.2.2.2.length, .stk 103000 1 (v131.2.1.map eI)]), (17, (v131.2.2.1.map eS).map .p), (20, (v131.2.2.2.map eB).map .p)]⟩) ?_ ?_
   ·refine nx 9 rfl (oLl (f := eTChange) rfl rfl ?_)
    refine nx 3 rfl (bd h0 fun o132 h1 h0 => ?_)
    refine kE 6 o132 (fun v133 => ⟨[(11, .vec 111 22 0 (v133.map eTChange))], []⟩) ?_ ?_
    ·exact nx 7 rfl (mQ (oi h0) rfl (AV.sub_vec _ _ _ _))
    refine lG (fun (q134 : (List TChange) × Int) => ⟨[(5, .ptr 22 0), (11, .vec 111 22 0 (q134.1.map eTChange)), (93, .p (eL eTChange l_1)), (94, .p (eI (l_1.length : Int))), (95, .p (eI q134.2))], [(22, [.p (eL eTChange o130.1), .arr 17 1 0 o130.2.2.1.length, .arr 20 1 0 o130.2.2.2.length, .stk 103000 1 (o130.2.1.map eI)]), (17, (o130.2.2.1.map eS).map .p), (20, (o130.2.2.2.map eB).map .p)]⟩) (fun m (q134 : (List TChange) × Int) => target_Filter_l4 n l_1 o130.2.2.2 m q134.1 q134.2) (fun _ => rfl) ([], 0) h1 (ghost_le (le_mk ⟨er rfl, ⟨_, rfl, AV.sub_nilvec _ _ _⟩, er rfl, er rfl, er rfl, trivial⟩ ⟨⟨_, rfl, ⟨sr, sr, sr, sr, trivial⟩⟩, ⟨_, rfl, subL_refl _⟩, ⟨_, rfl, subL_refl _⟩, trivial⟩)) ?_
    rintro m ⟨out106, t107⟩ h1
    replace h1 : target_Filter_l4 n l_1 o130.2.2.2 (m + 1) out106 t107 = some o132 := h1
    rw [target_Filter_l4] at h1
    refine nx 5 rfl (fD [96] h1 rfl (fun c108 h1 => ?_) fun c108 h1 => ?_)
    ·refine nx 3 rfl (bd h1 fun o135 h2 h1 => ?_)
     refine kN o135 (fun v136 => ⟨[(5, .ptr 22 0), (11, .vec 111 22 0 (v136.map eTChange)), (93, .p (eL eTChange l_1)), (94, .p (eI (l_1.length : Int))), (95, .p (eI t107))], [(22, [.p (eL eTChange o130.1), .arr 17 1 0 o130.2.2.1.length, .arr 20 1 0 o130.2.2.2.length, .stk 103000 1 (o130.2.1.map eI)]), (17, (o130.2.2.1.map eS).map .p), (20, (o130.2.2.2.map eB).map .p)]⟩) ?_ ?_
     ·refine nx 2 rfl (oA h1 rfl rfl fun hk116 h1 => ?_)
      exact nx 2 rfl (eX (o135, t107 + 1) h1 (gE rfl rfl))
     refine nx 4 rfl (oE h2 TChange.cells_eq rfl rfl (fun _ => rfl) fun hk109 h2 => ?_)
     refine nx 1 rfl (mO rfl (ok_alloc rfl rfl rfl rfl rfl ?_))
     refine mG (ghost_obc (show demOb _ _ = _ from (by repeat (first | exact demOb_nil _ | apply demOb_drop rfl | apply demOb_keep rfl (demL_p _ _) | apply demOb_keep rfl rfl)))) (nx 10 rfl ?_)
     refine cc' h2 fun hk110 h2 => mO rfl (ok_indexAddrA1 rfl rfl rfl rfl rfl rfl rfl rfl rfl hk110 ?_)
     refine mO rfl (ok_loadM (default : Bool) (f := eB) (l := o130.2.2.2) rfl rfl rfl rfl rfl rfl rfl (by have := hk110; omega) ?_)
     refine nx 1 rfl (fB [106] h2 rfl (fun c111 h2 => ?_) fun c111 h2 => ?_)
     ·refine nx 4 rfl (bd h2 fun r112 e113 h2 => ?_)
      refine oK (target_change_ok _ (lat l_1 t107) _ e113) rfl ⟨sr, trivial⟩ Tryz.call41 rfl (mO rfl (op_bslice eTChange [r112] rfl rfl rfl rfl rfl rfl rfl rfl rfl rfl rfl rfl rfl (by first | rfl | (simp only [List.map_cons, List.map_nil, TChange.agg_eq]; done) | (simp only [List.map_cons, List.map_nil, TChange.agg_eq]; rfl)) ?_))
      refine cc' h2 fun hk114 h2 => mO rfl (op_appV eTChange out106 [r112] rfl rfl rfl rfl rfl rfl rfl rfl rfl rfl rfl rfl rfl (fun x => congrArg List.length (TChange.cells_eq x)) rfl rfl rfl rfl hk114 ?_)
      refine mG (ghost_ob (show demOb _ _ = _ from (by repeat (first | exact demOb_nil _ | apply demOb_drop rfl | apply demOb_keep rfl (demL_p _ _) | apply demOb_keep rfl rfl)))) (nx 2 rfl ?_)
      exact eX _ (oi h2).symm (gE rfl rfl)
     exact nx 2 rfl (eX _ (oi h2).symm (gE rfl rfl))
    exact nx 2 rfl (eXi _ (oi h1).symm (gE rfl rfl))
   skip; refine mG (ghost_ren 101000 103000 rfl rfl rfl rfl (by repeat (first | exact rfl | exact mapA_go_p _ | apply mapO_cons))) ?_
   refine lG (fun (q137 : (List TChange) × (List Int) × (List Bytes) × (List Bool)) => ⟨[(1, .p (eL eTChange l_1)), (5, .ptr 22 0)], [(22, [.p (eL eTChange q137.1), .arr 17 1 0 q137.2.2.1.length, .arr 20 1 0 q137.2.2.2.length, .stk 103000 1 (q137.2.1.map eI)]), (17, (q137.2.2.1.map eS).map .p), (20, (q137.2.2.2.map eB).map .p)]⟩) (fun m (q137 : (List TChange) × (List Int) × (List Bytes) × (List Bool)) => target_Filter_l3 n m q137.1 q137.2.1 q137.2.2.1 q137.2.2.2) (fun _ => rfl) (o128.1, o128.2.1, o128.2.2.1, o128.2.2.2) h1 (ghost_le (le_mk ⟨er rfl, er rfl, trivial⟩ ⟨⟨_, rfl, ⟨sr, AV.sub_of_eq (by first | rfl | (simp; done) | (simp [AV.dem]; rfl)), AV.sub_of_eq (by first | rfl | (simp; done) | (simp [AV.dem]; rfl)), sr, trivial⟩⟩, ⟨_, rfl, subL_refl _⟩, ⟨_, rfl, subL_refl _⟩, trivial⟩)) ?_
   rintro m ⟨f76, f77, l78, l79⟩ h1
   replace h1 : target_Filter_l3 n (m + 1) f76 f77 l78 l79 = some o130 := h1
   rw [target_Filter_l3] at h1
   refine nx 7 rfl (mO rfl (op_lenSk eI f77 rfl rfl rfl rfl rfl rfl ?_))
   refine nx 2 rfl (fD [63] h1 rfl (fun c80 h1 => ?_) fun c80 h1 => ?_)
   ·refine nx 4 rfl (cc' h1 fun hk81 h1 => ?_)
    refine cc' h1 fun hk82 h1 => mD [(1, .p (eL eTChange l_1)), (5, .ptr 22 0)] rfl ⟨rfl, rfl, trivial⟩ rfl (dR 8 rfl ?_)
    refine dq (.p (eI (f77.length : Int))) [71] rfl (fun _ e _ q => one_op rfl (op_lenSk eI f77 rfl rfl rfl rfl rfl (e _ _ rfl) q)) rfl (dq (.p (eI ((f77.length : Int) - 1))) [72] rfl (fun _ e _ q => one_op rfl (ok_ar rfl rfl rfl (e _ _ rfl) rfl rfl hk81 q)) rfl ?_)
    refine dq (.ptr 103000 ((f77.length : Int) - 1).toNat) [67,73] rfl (fun _ e _ q => one_op rfl (op_indexAddrSk eI f77 rfl rfl rfl rfl rfl rfl (e _ _ rfl) (e _ _ rfl) rfl hk82 q)) rfl (dq (.p (eI (lat f77 ((f77.length : Int) - 1)))) [74] rfl (fun _ e _ q => one_op rfl (op_loadSkO eI (fun _ => ⟨rfl, rfl⟩) f77 22 3 rfl rfl rfl rfl rfl (e _ _ rfl) rfl rfl hk82 q)) rfl ?_)
    refine dR 1 rfl (dE rfl ?_)
    refine nx 2 rfl (cc' h1 fun hk83 h1 => ?_)
    refine cc' h1 fun hk84 h1 => mG (gE (t := ⟨[(1, .p (eL eTChange l_1)), (5, .ptr 22 0), (10, .p (eI (lat f77 ((f77.length : Int) - 1))))], [(22, [.p (eL eTChange f76), .arr 17 1 0 l78.length, .arr 20 1 0 l79.length, .stk 103000 1 (f77.map eI)]), (17, (l78.map eS).map .p), (20, (l79.map eB).map .p)]⟩) rfl rfl) (mS ⟨1, [14], (fun _ => .none), (fun _ => [(1, .p (eL eTChange l_1)), (5, .ptr 22 0), (10, .p (eI (lat f77 ((f77.length : Int) - 1))))]), (by2 ([(22, [.p (eL eTChange f76), .arr 17 1 0 l78.length, .arr 20 1 0 l79.length, .stk 103000 1 (f77.map eI)]), (17, (l78.map eS).map .p), (20, (l79.map eB).map .p)]) ([(22, [.p (eL eTChange f76), .arr 17 1 0 l78.length, .arr 20 1 0 l79.length, .stk 103000 1 ((f77.take ((f77.length : Int) - 1).toNat).map eI)]), (22, [.p (eL eTChange f76), .arr 17 1 0 l78.length, .arr 20 1 0 l79.length, .stk 103000 1 (f77.map eI)]), (17, (l78.map eS).map .p), (20, (l79.map eB).map .p)]))⟩ rfl rfl rfl ⟨rfl, rfl, rfl, trivial⟩ (lt1 ⟨rfl, rfl, rfl, trivial⟩) rfl rfl rfl rfl ?_)
    refine ds_pure (fun _ => .ptr 22 0) rfl rfl rfl (all2 rfl (fun _ => rfl)) (lt1 rfl) (stg_no rfl (stg_yes [(5, _)] ⟨.inl rfl, trivial⟩ (fun sl hsl K hK => one_op rfl (ok_move rfl rfl rfl (hsl _ _ rfl) hK)) stg_nil)) (ds_pure (fun _ => .ptr 22 0) rfl rfl rfl (all2 rfl (fun _ => rfl)) (lt1 rfl) (stg_no rfl (stg_yes [(5, _)] ⟨.inl rfl, trivial⟩ (fun sl hsl K hK => one_op rfl (ok_move rfl rfl rfl (hsl _ _ rfl) hK)) stg_nil)) ?_)
    refine ds_pure (fun _ => .ptr 22 0) rfl rfl rfl (all2 rfl (fun _ => rfl)) (lt1 rfl) (stg_no rfl (stg_yes [(77, _)] ⟨.inr ⟨1, _, rfl, rfl, rfl⟩, trivial⟩ (fun sl hsl K hK => one_op rfl (ok_nilCheckP rfl rfl rfl (hsl _ _ rfl) hK)) stg_nil)) (ds_pure (fun _ => .ptr 22 3) rfl rfl rfl (all2 rfl (fun _ => rfl)) (lt1 rfl) (stg_no rfl (stg_yes [(78, _)] ⟨.inr ⟨2, _, rfl, rfl, rfl⟩, trivial⟩ (fun sl hsl K hK => one_op rfl (ok_fieldAddrP rfl rfl rfl rfl rfl rfl rfl rfl (hsl _ _ rfl) hK)) stg_nil)) ?_)
    refine ds_pure (fun _ => .stk 103000 1 (f77.map eI)) rfl rfl rfl (all2 rfl (fun _ => rfl)) (lt1 rfl) (stg_no rfl (stg_yes [(79, _)] ⟨.inr ⟨3, _, rfl, rfl, rfl⟩, trivial⟩ (fun sl hsl K hK => one_op rfl (ok_loadP1 rfl rfl rfl rfl rfl (hsl _ _ rfl) rfl rfl hK)) stg_nil)) (ds_pure (fun _ => .ptr 22 0) rfl rfl rfl (all2 rfl (fun _ => rfl)) (lt1 rfl) (stg_no rfl (stg_yes [(5, _)] ⟨.inl rfl, trivial⟩ (fun sl hsl K hK => one_op rfl (ok_move rfl rfl rfl (hsl _ _ rfl) hK)) stg_nil)) ?_)
    refine ds_pure (fun _ => .ptr 22 0) rfl rfl rfl (all2 rfl (fun _ => rfl)) (lt1 rfl) (stg_no rfl (stg_yes [(81, _)] ⟨.inr ⟨5, _, rfl, rfl, rfl⟩, trivial⟩ (fun sl hsl K hK => one_op rfl (ok_nilCheckP rfl rfl rfl (hsl _ _ rfl) hK)) stg_nil)) (ds_pure (fun _ => .ptr 22 3) rfl rfl rfl (all2 rfl (fun _ => rfl)) (lt1 rfl) (stg_no rfl (stg_yes [(82, _)] ⟨.inr ⟨6, _, rfl, rfl, rfl⟩, trivial⟩ (fun sl hsl K hK => one_op rfl (ok_fieldAddrP rfl rfl rfl rfl rfl rfl rfl rfl (hsl _ _ rfl) hK)) stg_nil)) ?_)
    refine ds_pure (fun _ => .stk 103000 1 (f77.map eI)) rfl rfl rfl (all2 rfl (fun _ => rfl)) (lt1 rfl) (stg_no rfl (stg_yes [(83, _)] ⟨.inr ⟨7, _, rfl, rfl, rfl⟩, trivial⟩ (fun sl hsl K hK => one_op rfl (ok_loadP1 rfl rfl rfl rfl rfl (hsl _ _ rfl) rfl rfl hK)) stg_nil)) (ds_pure (fun _ => .p (eI (f77.length : Int))) rfl rfl rfl (all2 rfl (fun _ => rfl)) (lt1 rfl) (stg_no rfl (stg_yes [(84, _)] ⟨.inr ⟨8, _, rfl, rfl, rfl⟩, trivial⟩ (fun sl hsl K hK => one_op rfl (op_lenSk eI f77 rfl rfl rfl rfl rfl (hsl _ _ rfl) hK)) stg_nil)) ?_)
    refine ds_pure (fun _ => .p (eI ((f77.length : Int) - 1))) rfl rfl rfl (all2 rfl (fun _ => rfl)) (lt1 rfl) (stg_no rfl (stg_yes [(85, _)] ⟨.inr ⟨9, _, rfl, rfl, rfl⟩, trivial⟩ (fun sl hsl K hK => one_op rfl (ok_ar rfl rfl rfl (hsl _ _ rfl) rfl rfl hk83 hK)) stg_nil)) (ds_pure (fun _ => .stk 103000 1 ((f77.take ((f77.length : Int) - 1).toNat).map eI)) rfl rfl rfl (all2 rfl (fun _ => rfl)) (lt1 rfl) (stg_no rfl (stg_yes [(80, _), (86, _)] ⟨.inr ⟨4, _, rfl, rfl, rfl⟩, .inr ⟨10, _, rfl, rfl, rfl⟩, trivial⟩ (fun sl hsl K hK => one_op rfl (op_sliceSk (h := (f77.length : Int) - 1) eI f77 rfl rfl rfl rfl rfl rfl (hsl _ _ rfl) (hi_some (hsl _ _ rfl)) hk84 rfl hK)) stg_nil)) ?_)
    refine ds_pure (fun _ => .ptr 22 0) rfl rfl rfl (all2 rfl (fun _ => rfl)) (lt1 rfl) (stg_yes [(76, _)] ⟨.inr ⟨0, _, rfl, rfl, rfl⟩, trivial⟩ (fun sl hsl K hK => one_op rfl (ok_nilCheckP rfl rfl rfl (hsl _ _ rfl) hK)) (stg_yes [(76, _)] ⟨.inr ⟨0, _, rfl, rfl, rfl⟩, trivial⟩ (fun sl hsl K hK => one_op rfl (ok_nilCheckP rfl rfl rfl (hsl _ _ rfl) hK)) stg_nil)) (ds_pure (fun _ => .ptr 22 3) rfl rfl rfl (all2 rfl (fun _ => rfl)) (lt1 rfl) (stg_no rfl (stg_yes [(88, _)] ⟨.inr ⟨12, _, rfl, rfl, rfl⟩, trivial⟩ (fun sl hsl K hK => one_op rfl (ok_fieldAddrP rfl rfl rfl rfl rfl rfl rfl rfl (hsl _ _ rfl) hK)) stg_nil)) ?_)
    refine ds_store [(87, _), (89, _)] rfl ⟨.inr ⟨11, _, rfl, rfl, rfl⟩, .inr ⟨13, _, rfl, rfl, rfl⟩, trivial⟩ rfl (fun sl hsl K hK => one_op rfl (ok_store rfl rfl rfl (hsl _ _ rfl) (hsl _ _ rfl) rfl rfl rfl (Nat.le_of_ble_eq_true rfl) hK)) (ds_nil ?_)
    refine nx 4 rfl (bd h1 fun r85 e86 h1 => ?_)
    refine mO rfl (op_callV [22, 17, 20] [103000] 104000 104001 (target_chooser_follow_ok _ (Tchooser.mk f76 l78 l79 (f77.take ((f77.length : Int) - 1).toNat)) (lat f77 ((f77.length : Int) - 1)) _ e86) rfl rfl rfl rfl rfl ⟨sr, sr, trivial⟩ rfl (mapO_cons rfl rfl (mapO_cons rfl (mapA_go_p _) (mapO_cons rfl (mapA_go_p _) rfl))) ⟨⟨_, rfl, ⟨sr, sr, sr, sr, trivial⟩⟩, ⟨_, rfl, subL_refl _⟩, ⟨_, rfl, subL_refl _⟩, trivial⟩ rfl rfl rfl rfl rfl rfl rfl rfl Tryz.call40 rfl (mapO_cons rfl rfl (mapO_cons rfl (mapA_go_p _) (mapO_cons rfl (mapA_go_p _) rfl))) ?_)
    refine nx 1 rfl ?_
    skip; refine mG (ghost_ren 104000 103000 rfl rfl rfl rfl (by repeat (first | exact rfl | exact mapA_go_p _ | apply mapO_cons))) ?_
    exact eX (r85.fchanges, r85.ftodo, r85.fresources, r85.fchosen) h1 (ghost_le (le_mk ⟨er rfl, er rfl, trivial⟩ ⟨⟨_, rfl, ⟨sr, AV.sub_of_eq (by first | rfl | (simp; done) | (simp [AV.dem]; rfl)), AV.sub_of_eq (by first | rfl | (simp; done) | (simp [AV.dem]; rfl)), sr, trivial⟩⟩, ⟨_, rfl, subL_refl _⟩, ⟨_, rfl, subL_refl _⟩, trivial⟩))
   exact nx 2 rfl (eXi _ (oi h1).symm (ghost_le (le_mk ⟨er rfl, er rfl, trivial⟩ ⟨⟨_, rfl, ⟨sr, AV.sub_of_eq (by first | rfl | (simp; done) | (simp [AV.dem]; rfl)), AV.sub_of_eq (by first | rfl | (simp; done) | (simp [AV.dem]; rfl)), sr, trivial⟩⟩, ⟨_, rfl, subL_refl _⟩, ⟨_, rfl, subL_refl _⟩, trivial⟩)))
  refine lG (fun (q138 : Int × (List TChange) × (List Int) × (List Bytes) × (List Bool)) => ⟨[(0, .p (eL eS targets_0)), (1, .p (eL eTChange l_1)), (5, .ptr 22 0), (43, .p (eL eTChange l_1)), (44, .p (eI (l_1.length : Int))), (45, .p (eI q138.1))], [(22, [.p (eL eTChange q138.2.1), .arr 17 1 0 q138.2.2.2.1.length, .arr 20 1 0 q138.2.2.2.2.length, .stk 101000 1 (q138.2.2.1.map eI)]), (17, (q138.2.2.2.1.map eS).map .p), (20, (q138.2.2.2.2.map eB).map .p)]⟩) (fun m (q138 : Int × (List TChange) × (List Int) × (List Bytes) × (List Bool)) => target_Filter_l2 n targets_0 l_1 m q138.1 q138.2.1 q138.2.2.1 q138.2.2.2.1 q138.2.2.2.2) (fun _ => rfl) (0, l_1, [], o126, List.replicate (l_1.length : Int).toNat (false : Bool)) h1 (ghost_le (le_mk ⟨er rfl, er rfl, er rfl, er rfl, er rfl, er rfl, trivial⟩ ⟨⟨_, rfl, ⟨sr, AV.sub_of_eq (by first | rfl | (simp; done) | (simp [AV.dem]; rfl)), AV.sub_of_eq (by first | rfl | (simp; done) | (simp [AV.dem]; rfl)), AV.sub_nilstk _ _, trivial⟩⟩, ⟨_, rfl, subL_refl _⟩, ⟨_, rfl, subL_refl _⟩, trivial⟩)) ?_
  rintro m ⟨t39, f40, f41, l42, l43⟩ h1
  replace h1 : target_Filter_l2 n targets_0 l_1 (m + 1) t39 f40 f41 l42 l43 = some o128 := h1
  rw [target_Filter_l2] at h1
  refine nx 5 rfl (fD [46] h1 rfl (fun c44 h1 => ?_) fun c44 h1 => ?_)
  ·refine nx 3 rfl (bd h1 fun o139 h2 h1 => ?_)
   refine kN o139 (fun v140 => ⟨[(0, .p (eL eS targets_0)), (1, .p (eL eTChange l_1)), (5, .ptr 22 0), (43, .p (eL eTChange l_1)), (44, .p (eI (l_1.length : Int))), (45, .p (eI t39))], [(22, [.p (eL eTChange v140.1), .arr 17 1 0 v140.2.2.1.length, .arr 20 1 0 v140.2.2.2.length, .stk 102000 1 (v140.2.1.map eI)]), (17, (v140.2.2.1.map eS).map .p), (20, (v140.2.2.2.map eB).map .p)]⟩) ?_ ?_
   ·refine nx 2 rfl (oA h1 rfl rfl fun hk55 h1 => ?_)
    refine nx 2 rfl ?_
    skip; refine mG (ghost_ren 102000 101000 rfl rfl rfl rfl (by repeat (first | exact rfl | exact mapA_go_p _ | apply mapO_cons))) ?_
    exact eX (t39 + 1, o139.1, o139.2.1, o139.2.2.1, o139.2.2.2) h1 (ghost_le (le_mk ⟨er rfl, er rfl, er rfl, er rfl, er rfl, er rfl, trivial⟩ ⟨⟨_, rfl, ⟨sr, AV.sub_of_eq (by first | rfl | (simp; done) | (simp [AV.dem]; rfl)), AV.sub_of_eq (by first | rfl | (simp; done) | (simp [AV.dem]; rfl)), sr, trivial⟩⟩, ⟨_, rfl, subL_refl _⟩, ⟨_, rfl, subL_refl _⟩, trivial⟩))
   refine nx 4 rfl (oE h2 TChange.cells_eq rfl rfl (fun _ => rfl) fun hk45 h2 => ?_)
   refine nx 1 rfl (mO rfl (ok_alloc rfl rfl rfl rfl rfl ?_))
   refine mG (ghost_obc (show demOb _ _ = _ from (by repeat (first | exact demOb_nil _ | apply demOb_drop rfl | apply demOb_keep rfl (demL_p _ _) | apply demOb_keep rfl rfl)))) (nx 8 rfl ?_)
   refine bd h2 fun r46 e47 h2 => oK (target_Selected_ok _ targets_0 ((lat l_1 t39).fAddr) _ e47) rfl ⟨sr, sr, trivial⟩ Tryz.call15 rfl (nx 1 rfl ?_)
   refine fB [53] h2 rfl (fun c48 h2 => ?_) fun c48 h2 => ?_
   ·refine nx 4 rfl (bd h2 fun r49 e50 h2 => ?_)
    refine mO rfl (op_callV [22, 17, 20] [101000] 102000 102001 (target_chooser_choose_ok (Tchooser.mk f40 l42 l43 f41) t39 _ e50) rfl rfl rfl rfl rfl ⟨sr, sr, trivial⟩ rfl (mapO_cons rfl rfl (mapO_cons rfl (mapA_go_p _) (mapO_cons rfl (mapA_go_p _) rfl))) ⟨⟨_, rfl, ⟨sr, sr, sr, sr, trivial⟩⟩, ⟨_, rfl, subL_refl _⟩, ⟨_, rfl, subL_refl _⟩, trivial⟩ rfl rfl rfl rfl rfl rfl rfl rfl Tryz.call39 rfl (mapO_cons rfl rfl (mapO_cons rfl (mapA_go_p _) (mapO_cons rfl (mapA_go_p _) rfl))) ?_)
    exact nx 1 rfl (eX _ (oi h2).symm (ghost_le (le_mk ⟨er rfl, er rfl, er rfl, er rfl, er rfl, er rfl, trivial⟩ ⟨⟨_, rfl, ⟨sr, AV.sub_of_eq (by first | rfl | (simp; done) | (simp [AV.dem]; rfl)), AV.sub_of_eq (by first | rfl | (simp; done) | (simp [AV.dem]; rfl)), sr, trivial⟩⟩, ⟨_, rfl, subL_refl _⟩, ⟨_, rfl, subL_refl _⟩, trivial⟩)))
   refine nx 2 rfl ?_
   skip; refine mG (ghost_ren 101000 102000 rfl rfl rfl rfl (by repeat (first | exact rfl | exact mapA_go_p _ | apply mapO_cons))) ?_
   exact eX _ (oi h2).symm (ghost_le (le_mk ⟨er rfl, er rfl, er rfl, er rfl, er rfl, er rfl, trivial⟩ ⟨⟨_, rfl, ⟨sr, AV.sub_of_eq (by first | rfl | (simp; done) | (simp [AV.dem]; rfl)), AV.sub_of_eq (by first | rfl | (simp; done) | (simp [AV.dem]; rfl)), sr, trivial⟩⟩, ⟨_, rfl, subL_refl _⟩, ⟨_, rfl, subL_refl _⟩, trivial⟩))
  exact nx 2 rfl (eXi _ (oi h1).symm (ghost_le (le_mk ⟨er rfl, er rfl, trivial⟩ ⟨⟨_, rfl, ⟨sr, AV.sub_of_eq (by first | rfl | (simp; done) | (simp [AV.dem]; rfl)), AV.sub_of_eq (by first | rfl | (simp; done) | (simp [AV.dem]; rfl)), sr, trivial⟩⟩, ⟨_, rfl, subL_refl _⟩, ⟨_, rfl, subL_refl _⟩, trivial⟩)))
 refine lG (fun (q141 : Int × (List Bytes)) => ⟨[(0, .p (eL eS targets_0)), (1, .p (eL eTChange l_1)), (5, .ptr 22 0), (23, .p (eL eTChange l_1)), (24, .p (eI (l_1.length : Int))), (25, .p (eI q141.1))], [(22, [.p (eL eTChange l_1), .arr 17 1 0 q141.2.length, .arr 20 1 0 ((List.replicate (l_1.length : Int).toNat (false : Bool)).length), .p (.val (.slice none 0 0))]), (17, (q141.2.map eS).map .p), (20, ((List.replicate (l_1.length : Int).toNat (false : Bool)).map eB).map .p)]⟩) (fun m (q141 : Int × (List Bytes)) => target_Filter_l1 n l_1 m q141.1 q141.2) (fun _ => rfl) (0, List.replicate (l_1.length : Int).toNat ([] : Bytes)) h1 (ghost_le (le_mk ⟨er rfl, er rfl, er rfl, er rfl, er rfl, er rfl, trivial⟩ ⟨⟨_, rfl, ⟨sr, AV.sub_of_eq (by first | rfl | (simp; done) | (simp [AV.dem]; rfl)), sr, sr, trivial⟩⟩, ⟨_, rfl, subL_refl _⟩, ⟨_, rfl, subL_refl _⟩, trivial⟩)) ?_
 rintro m ⟨t11, l12⟩ h1
 replace h1 : target_Filter_l1 n l_1 (m + 1) t11 l12 = some o126 := h1
 rw [target_Filter_l1] at h1
 refine nx 5 rfl (fD [26] h1 rfl (fun c13 h1 => ?_) fun c13 h1 => ?_)
 ·refine nx 7 rfl (oE h1 TChange.cells_eq rfl rfl (fun _ => rfl) fun hk14 h1 => ?_)
  refine nx 1 rfl (mO rfl (ok_alloc rfl rfl rfl rfl rfl ?_))
  refine mG (ghost_obc (show demOb _ _ = _ from (by repeat (first | exact demOb_nil _ | apply demOb_drop rfl | apply demOb_keep rfl (demL_p _ _) | apply demOb_keep rfl rfl)))) (nx 3 rfl ?_)
  refine bd h1 fun r15 e16 h1 => cc' h1 fun hk17 h1 => mG (gE (t := ⟨[(0, .p (eL eS targets_0)), (1, .p (eL eTChange l_1)), (5, .ptr 22 0), (6, .p (eI t11)), (7, .ptr 7 0), (23, .p (eL eTChange l_1)), (24, .p (eI (l_1.length : Int))), (25, .p (eI t11))], [(7, (TChange.cs (lat l_1 t11)).map .p), (22, [.p (eL eTChange l_1), .arr 17 1 0 l12.length, .arr 20 1 0 ((List.replicate (l_1.length : Int).toNat (false : Bool)).length), .p (.val (.slice none 0 0))]), (17, (l12.map eS).map .p), (20, ((List.replicate (l_1.length : Int).toNat (false : Bool)).map eB).map .p)]⟩) rfl rfl) (mS ⟨1, [12], (fun _ => .none), (fun _ => [(0, .p (eL eS targets_0)), (1, .p (eL eTChange l_1)), (5, .ptr 22 0), (6, .p (eI t11)), (7, .ptr 7 0), (23, .p (eL eTChange l_1)), (24, .p (eI (l_1.length : Int))), (25, .p (eI t11))]), (by2 ([(7, [.p (eS ((lat l_1 t11).fAddr)), .p (eS ((lat l_1 t11).fDeposed)), .p (eS ((lat l_1 t11).fType)), .p (eI ((lat l_1 t11).fAction)), .p (eI ((lat l_1 t11).fReason)), .p (eI (((lat l_1 t11).fBefore).fKind)), .p (eI (((lat l_1 t11).fBefore).fNum)), .p (eS (((lat l_1 t11).fBefore).fStr)), .p (eL eTValue (((lat l_1 t11).fBefore).fItems)), .p (eL eS (((lat l_1 t11).fBefore).fKeys)), .p (eI (((lat l_1 t11).fAfter).fKind)), .p (eI (((lat l_1 t11).fAfter).fNum)), .p (eS (((lat l_1 t11).fAfter).fStr)), .p (eL eTValue (((lat l_1 t11).fAfter).fItems)), .p (eL eS (((lat l_1 t11).fAfter).fKeys)), .p (eS ((lat l_1 t11).fID)), .p (eL eS ((lat l_1 t11).fReplace)), .p (eB ((lat l_1 t11).fCreateFirst)), .p (eB ((lat l_1 t11).fProtect)), .p (eB ((lat l_1 t11).fImport)), .p (eL eS ((lat l_1 t11).fDeps)), .p (eL eS ((lat l_1 t11).fOldDeps))]), (22, [.p (eL eTChange l_1), .arr 17 1 0 l12.length, .arr 20 1 0 ((List.replicate (l_1.length : Int).toNat (false : Bool)).length), .p (.val (.slice none 0 0))]), (17, (l12.map eS).map .p), (20, ((List.replicate (l_1.length : Int).toNat (false : Bool)).map eB).map .p)]) ([(17, ((l12.set t11.toNat r15.1).map eS).map .p), (7, [.p (eS ((lat l_1 t11).fAddr)), .p (eS ((lat l_1 t11).fDeposed)), .p (eS ((lat l_1 t11).fType)), .p (eI ((lat l_1 t11).fAction)), .p (eI ((lat l_1 t11).fReason)), .p (eI (((lat l_1 t11).fBefore).fKind)), .p (eI (((lat l_1 t11).fBefore).fNum)), .p (eS (((lat l_1 t11).fBefore).fStr)), .p (eL eTValue (((lat l_1 t11).fBefore).fItems)), .p (eL eS (((lat l_1 t11).fBefore).fKeys)), .p (eI (((lat l_1 t11).fAfter).fKind)), .p (eI (((lat l_1 t11).fAfter).fNum)), .p (eS (((lat l_1 t11).fAfter).fStr)), .p (eL eTValue (((lat l_1 t11).fAfter).fItems)), .p (eL eS (((lat l_1 t11).fAfter).fKeys)), .p (eS ((lat l_1 t11).fID)), .p (eL eS ((lat l_1 t11).fReplace)), .p (eB ((lat l_1 t11).fCreateFirst)), .p (eB ((lat l_1 t11).fProtect)), .p (eB ((lat l_1 t11).fImport)), .p (eL eS ((lat l_1 t11).fDeps)), .p (eL eS ((lat l_1 t11).fOldDeps))]), (22, [.p (eL eTChange l_1), .arr 17 1 0 l12.length, .arr 20 1 0 ((List.replicate (l_1.length : Int).toNat (false : Bool)).length), .p (.val (.slice none 0 0))]), (17, (l12.map eS).map .p), (20, ((List.replicate (l_1.length : Int).toNat (false : Bool)).map eB).map .p)]))⟩ rfl rfl rfl ⟨rfl, rfl, rfl, rfl, rfl, rfl, rfl, rfl, trivial⟩ (lt1 ⟨rfl, rfl, rfl, rfl, rfl, rfl, rfl, rfl, trivial⟩) rfl rfl rfl rfl ?_)
  refine ds_pure (fun _ => .ptr 22 0) rfl rfl rfl (all2 rfl (fun _ => rfl)) (lt1 rfl) (stg_no rfl (stg_yes [(5, _)] ⟨.inl rfl, trivial⟩ (fun sl hsl K hK => one_op rfl (ok_move rfl rfl rfl (hsl _ _ rfl) hK)) stg_nil)) (ds_pure (fun _ => .ptr 22 0) rfl rfl rfl (all2 rfl (fun _ => rfl)) (lt1 rfl) (stg_no rfl (stg_yes [(31, _)] ⟨.inr ⟨0, _, rfl, rfl, rfl⟩, trivial⟩ (fun sl hsl K hK => one_op rfl (ok_nilCheckP rfl rfl rfl (hsl _ _ rfl) hK)) stg_nil)) ?_)
  refine ds_pure (fun _ => .ptr 22 1) rfl rfl rfl (all2 rfl (fun _ => rfl)) (lt1 rfl) (stg_no rfl (stg_yes [(32, _)] ⟨.inr ⟨1, _, rfl, rfl, rfl⟩, trivial⟩ (fun sl hsl K hK => one_op rfl (ok_fieldAddrP rfl rfl rfl rfl rfl rfl rfl rfl (hsl _ _ rfl) hK)) stg_nil)) (ds_pure (fun _ => .arr 17 1 0 l12.length) rfl rfl rfl (all2 rfl (fun _ => rfl)) (lt1 rfl) (stg_no rfl (stg_yes [(33, _)] ⟨.inr ⟨2, _, rfl, rfl, rfl⟩, trivial⟩ (fun sl hsl K hK => one_op rfl (ok_loadP1 rfl rfl rfl rfl rfl (hsl _ _ rfl) rfl rfl hK)) stg_nil)) ?_)
  refine ds_pure (fun _ => .p (eI t11)) rfl rfl rfl (all2 rfl (fun _ => rfl)) (lt1 rfl) (stg_no rfl (stg_yes [(6, _)] ⟨.inl rfl, trivial⟩ (fun sl hsl K hK => one_op rfl (ok_move rfl rfl rfl (hsl _ _ rfl) hK)) stg_nil)) (ds_pure (fun _ => .ptr 7 0) rfl rfl rfl (all2 rfl (fun _ => rfl)) (lt1 rfl) (stg_no rfl (stg_yes [(7, _)] ⟨.inl rfl, trivial⟩ (fun sl hsl K hK => one_op rfl (ok_fieldAddrP rfl rfl rfl rfl rfl rfl rfl rfl (hsl _ _ rfl) hK)) stg_nil)) ?_)
  refine ds_pure (fun _ => .p (eS ((lat l_1 t11).fAddr))) rfl rfl rfl (all2 rfl (fun _ => rfl)) (lt1 rfl) (stg_no rfl (stg_yes [(36, _)] ⟨.inr ⟨5, _, rfl, rfl, rfl⟩, trivial⟩ (fun sl hsl K hK => one_op rfl (ok_loadP1 rfl rfl rfl rfl rfl (hsl _ _ rfl) rfl rfl hK)) stg_nil)) (ds_pure (fun _ => .tuple [.p (eS r15.1), .p (eI r15.2)]) rfl rfl rfl (all2 rfl (fun _ => rfl)) (lt1 rfl) (stg_no rfl (stg_yes [(37, _)] ⟨.inr ⟨6, _, rfl, rfl, rfl⟩, trivial⟩ (fun sl hsl K hK => one_op rfl (ok_callP (address_Static_ok _ ((lat l_1 t11).fAddr) _ e16) rfl rfl rfl (args_cons (hsl _ _ rfl) args_nil) ⟨sr, trivial⟩ Tryz.call32 rfl hK)) stg_nil)) ?_)
  refine ds_pure (fun _ => .tuple [.p (eS r15.1), .p (eI r15.2)]) rfl rfl rfl (all2 rfl (fun _ => rfl)) (lt1 rfl) (stg_no rfl (stg_yes [(38, _)] ⟨.inr ⟨7, _, rfl, rfl, rfl⟩, trivial⟩ (fun sl hsl K hK => one_op rfl (ok_move rfl rfl rfl (hsl _ _ rfl) hK)) stg_nil)) (ds_pure (fun _ => .p (eS r15.1)) rfl rfl rfl (all2 rfl (fun _ => rfl)) (lt1 rfl) (stg_no rfl (stg_yes [(30, _)] ⟨.inr ⟨8, _, rfl, rfl, rfl⟩, trivial⟩ (fun sl hsl K hK => one_op rfl (ok_extract rfl rfl rfl (hsl _ _ rfl) rfl hK)) stg_nil)) ?_)
  refine ds_pure (fun _ => .p (eI r15.2)) rfl rfl rfl (all2 rfl (fun _ => rfl)) (lt1 rfl) (stg_yes [(30, _)] ⟨.inr ⟨8, _, rfl, rfl, rfl⟩, trivial⟩ (fun sl hsl K hK => one_op rfl (ok_extract rfl rfl rfl (hsl _ _ rfl) rfl hK)) (stg_yes [(30, _)] ⟨.inr ⟨8, _, rfl, rfl, rfl⟩, trivial⟩ (fun sl hsl K hK => one_op rfl (ok_extract rfl rfl rfl (hsl _ _ rfl) rfl hK)) stg_nil)) (ds_pure (fun _ => .ptr 17 t11.toNat) rfl rfl rfl (all2 rfl (fun _ => rfl)) (lt1 rfl) (stg_no rfl (stg_yes [(34, _), (35, _)] ⟨.inr ⟨3, _, rfl, rfl, rfl⟩, .inr ⟨4, _, rfl, rfl, rfl⟩, trivial⟩ (fun sl hsl K hK => one_op rfl (ok_indexAddrA1 rfl rfl rfl rfl rfl rfl (hsl _ _ rfl) (hsl _ _ rfl) rfl hk17 hK)) stg_nil)) ?_)
  refine ds_store [(39, _), (41, _)] rfl ⟨.inr ⟨9, _, rfl, rfl, rfl⟩, .inr ⟨11, _, rfl, rfl, rfl⟩, trivial⟩ rfl (fun sl hsl K hK => one_op rfl (ok_storeM (f := eS) (l := l12) (b := r15.1) rfl rfl rfl rfl (hsl _ _ rfl) rfl (hsl _ _ rfl) rfl (by have := hk17; omega) hK)) (ds_nil ?_)
  refine nx 2 rfl (oA h1 rfl rfl fun hk18 h1 => ?_)
  exact nx 2 rfl (eX (t11 + 1, l12.set t11.toNat r15.1) h1 (ghost_le (le_mk ⟨er rfl, er rfl, er rfl, er rfl, er rfl, er rfl, trivial⟩ ⟨⟨_, rfl, ⟨sr, AV.sub_of_eq (by first | rfl | (simp; done) | (simp [AV.dem]; rfl)), sr, sr, trivial⟩⟩, ⟨_, rfl, subL_refl _⟩, ⟨_, rfl, subL_refl _⟩, trivial⟩)))
 exact nx 2 rfl (eXi _ (oi h1).symm (ghost_le (le_mk ⟨er rfl, er rfl, er rfl, trivial⟩ ⟨⟨_, rfl, ⟨sr, AV.sub_of_eq (by first | rfl | (simp; done) | (simp [AV.dem]; rfl)), sr, sr, trivial⟩⟩, ⟨_, rfl, subL_refl _⟩, ⟨_, rfl, subL_refl _⟩, trivial⟩)))

def target_Close (n : Nat) (g_0 : TGraph) (statics_1 : List Bytes) : Option (List Bytes) :=
 (graph_Reach n g_0 statics_1).bind fun r1 =>
 some r1

set_option maxHeartbeats 4000000 in
theorem target_Close_ok (n : Nat) (g_0 : TGraph) (statics_1 : List Bytes) (r : (List Bytes)) (h0 : target_Close n g_0 statics_1 = some r) : PCalls Tryz.prog 18 [.agg (TGraph.cs g_0), eL eS statics_1] (· = .p (eL eS r)) := by
 unfold target_Close at h0
 refine pbodyA good Tryz.func18 rfl rfl rfl fun w0 => mP (fun v : (List Bytes) => .p (eL eS v)) ?_
 refine nx 9 rfl (bd h0 fun r1 e2 h0 => ?_)
 refine oK (graph_Reach_ok _ g_0 statics_1 _ e2) rfl ⟨sr, sr, trivial⟩ Tryz.call37 rfl (nx 3 rfl ?_)
 exact mQ (oi h0) rfl (sr)

end Go.Ab.R06
