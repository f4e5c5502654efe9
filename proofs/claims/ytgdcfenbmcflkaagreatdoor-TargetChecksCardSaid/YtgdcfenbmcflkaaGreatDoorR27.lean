/- Chapter 42. -/
import Derived.Test.YtgdcfenbmcflkaaGreatDoorR05
set_option linter.unusedVariables false
set_option linter.unusedSimpArgs false
set_option linter.unnecessarySimpa false
namespace Go.Ab.R06
open Go.Proofs Go.Ab Go.Ab.RB
attribute [local irreducible] awp rwpL OpOk PCalls OCalls AV.sub M Ghost

def graph_only_l1 (l_0 : List Bytes) (in_1 : List (Bytes × Bool)) : Nat → (List Bytes) → Int → Option (List Bytes)
 | 0, _, _ => none
 | m + 1, out9, t10 =>
 if t10 < (l_0.length : Int) then
  (
    ck ((0 : Int) ≤ t10 ∧ t10 < (l_0.length : Int)) <|
    if ((lookM in_1 (lat l_0 t10)).getD false) = true then
     ck ((out9.length + [lat l_0 t10].length) * 16 ≤ 140737488355328) <|
     some (out9 ++ [lat l_0 t10])
    else
     some out9
   : Option (List Bytes)).bind fun out15 =>
  ck (inR (t10 + 1)) <|
  graph_only_l1 l_0 in_1 m out15 (t10 + 1)
 else
  some out9

def graph_only (n : Nat) (l_0 : List Bytes) (in_1 : List (Bytes × Bool)) : Option (List Bytes) :=
 (graph_only_l1 l_0 in_1 n [] 0).bind fun out19 =>
 some out19

set_option maxHeartbeats 4000000 in
theorem graph_only_ok (n : Nat) (l_0 : List Bytes) (in_1 : List (Bytes × Bool)) (r : (List Bytes)) (h0 : graph_only n l_0 in_1 = some r) : OCalls Tryz.prog 57 [.p (eL eS l_0), .mp 900000 (in_1.map fun p : Bytes × Bool => (p.1, eB p.2))] [] (fun x y => x = .p (eL eS r) ∧ y = []) := by
 unfold graph_only at h0
 refine obodyG good [] [] Tryz.func57 rfl rfl rfl rfl rfl fun w0 F => mPo (fun v : (List Bytes) => .p (eL eS v)) (fun v => []) ?_
 refine nx 12 rfl (oLl (f := eS) rfl rfl ?_)
 refine nx 3 rfl (bd h0 fun o22 h1 h0 => ?_)
 refine kE 0 o22 (fun v23 => ⟨[(5, .vec 20 1 0 (v23.map eS))], []⟩) ?_ ?_
 ·exact nx 7 rfl (mQo (oi h0) (ghost_refl _) rfl rfl rfl rfl (sr) trivial)
 refine lG (fun (q24 : (List Bytes) × Int) => ⟨[(1, .mp 900000 (in_1.map fun p : Bytes × Bool => (p.1, eB p.2))), (5, .vec 20 1 0 (q24.1.map eS)), (8, .p (eL eS l_0)), (9, .p (eI (l_0.length : Int))), (10, .p (eI q24.2))], []⟩) (fun m (q24 : (List Bytes) × Int) => graph_only_l1 l_0 in_1 m q24.1 q24.2) (fun _ => rfl) ([], 0) h1 (ghost_le (le_mk ⟨er rfl, ⟨_, rfl, AV.sub_nilvec _ _ _⟩, er rfl, er rfl, er rfl, trivial⟩ trivial)) ?_
 rintro m ⟨out9, t10⟩ h1
 replace h1 : graph_only_l1 l_0 in_1 (m + 1) out9 t10 = some o22 := h1
 rw [graph_only_l1] at h1
 refine nx 5 rfl (fD [11] h1 rfl (fun c11 h1 => ?_) fun c11 h1 => ?_)
 ·refine nx 3 rfl (bd h1 fun o25 h2 h1 => ?_)
  refine kN o25 (fun v26 => ⟨[(1, .mp 900000 (in_1.map fun p : Bytes × Bool => (p.1, eB p.2))), (5, .vec 20 1 0 (v26.map eS)), (8, .p (eL eS l_0)), (9, .p (eI (l_0.length : Int))), (10, .p (eI t10))], []⟩) ?_ ?_
  ·refine nx 2 rfl (oA h1 rfl rfl fun hk16 h1 => ?_)
   exact nx 2 rfl (eX (o25, t10 + 1) h1 (gE rfl rfl))
  refine nx 3 rfl (oE h2 (fun _ => rfl) rfl rfl (fun _ => rfl) fun hk12 h2 => ?_)
  refine nx 7 rfl (mO rfl (op_lookMp eB in_1 false rfl rfl rfl rfl rfl rfl rfl (by kernel_rfl) rfl rfl rfl ?_))
  refine nx 1 rfl (fB [16] h2 rfl (fun c13 h2 => ?_) fun c13 h2 => ?_)
  ·refine nx 4 rfl (mO rfl (op_bslice eS [lat l_0 t10] rfl rfl rfl rfl rfl rfl rfl rfl rfl rfl rfl rfl rfl rfl ?_))
   refine cc' h2 fun hk14 h2 => mO rfl (op_appV eS out9 [lat l_0 t10] rfl rfl rfl rfl rfl rfl rfl rfl rfl rfl rfl rfl rfl (fun _ => rfl) rfl rfl rfl rfl hk14 ?_)
   exact nx 2 rfl (eX _ (oi h2).symm (gE rfl rfl))
  exact nx 2 rfl (eX _ (oi h2).symm (gE rfl rfl))
 exact nx 2 rfl (eXi _ (oi h1).symm (gE rfl rfl))

def graph_set_l1 (l_0 : List Bytes) : Nat → (List (Bytes × Bool)) → Int → Option (List (Bytes × Bool))
 | 0, _, _ => none
 | m + 1, out6, t7 =>
 if t7 < (l_0.length : Int) then
  ck ((0 : Int) ≤ t7 ∧ t7 < (l_0.length : Int)) <|
  ck (inR (t7 + 1)) <|
  graph_set_l1 l_0 m (putM out6 (lat l_0 t7) true) (t7 + 1)
 else
  some out6

def graph_set (n : Nat) (l_0 : List Bytes) : Option (List (Bytes × Bool)) :=
 (graph_set_l1 l_0 n ([] : List (Bytes × Bool)) 0).bind fun out13 =>
 some out13

set_option maxHeartbeats 4000000 in
theorem graph_set_ok (n : Nat) (l_0 : List Bytes) (r : (List (Bytes × Bool))) (h0 : graph_set n l_0 = some r) : OCalls Tryz.prog 60 [.p (eL eS l_0)] [] (fun x y => x = .mp 2000000 (r.map fun p : Bytes × Bool => (p.1, eB p.2)) ∧ y = []) := by
 unfold graph_set at h0
 refine obodyG good [800000] [] Tryz.func60 rfl rfl rfl rfl rfl fun w0 F => mPo (fun v : (List (Bytes × Bool)) => .mp 2000000 (v.map fun p : Bytes × Bool => (p.1, eB p.2))) (fun v => []) ?_
 refine nx 7 rfl (oLl (f := eS) rfl rfl ?_)
 refine mO rfl (ok_makeMapH rfl rfl rfl rfl rfl rfl rfl rfl ?_)
 refine nx 6 rfl (oLl (f := eS) rfl rfl ?_)
 refine nx 3 rfl (bd h0 fun o15 h1 h0 => ?_)
 refine kE 0 o15 (fun v16 => ⟨[(3, .mp 8 (v16.map fun p : Bytes × Bool => (p.1, eB p.2)))], []⟩) ?_ ?_
 ·exact nx 7 rfl (mQo (oi h0) (ghost_trans (ghost_ren 8 800000 rfl rfl rfl rfl rfl) (ghost_refl _)) rfl rfl rfl rfl (sr) trivial)
 refine lG (fun (q17 : (List (Bytes × Bool)) × Int) => ⟨[(3, .mp 8 (q17.1.map fun p : Bytes × Bool => (p.1, eB p.2))), (9, .p (eL eS l_0)), (10, .p (eI (l_0.length : Int))), (11, .p (eI q17.2))], []⟩) (fun m (q17 : (List (Bytes × Bool)) × Int) => graph_set_l1 l_0 m q17.1 q17.2) (fun _ => rfl) (([] : List (Bytes × Bool)), 0) h1 (gE rfl rfl) ?_
 rintro m ⟨out6, t7⟩ h1
 replace h1 : graph_set_l1 l_0 (m + 1) out6 t7 = some o15 := h1
 rw [graph_set_l1] at h1
 refine nx 5 rfl (fD [12] h1 rfl (fun c8 h1 => ?_) fun c8 h1 => ?_)
 ·refine nx 6 rfl (oE h1 (fun _ => rfl) rfl rfl (fun _ => rfl) fun hk9 h1 => ?_)
  refine nx 6 rfl (mO rfl (op_putMp eB out6 true rfl rfl rfl rfl rfl rfl rfl rfl rfl rfl rfl rfl ?_))
  refine nx 2 rfl (oA h1 rfl rfl fun hk10 h1 => ?_)
  exact nx 2 rfl (eX (putM out6 (lat l_0 t7) true, t7 + 1) h1 (gE rfl rfl))
 exact nx 2 rfl (eXi _ (oi h1).symm (gE rfl rfl))

def graph_reached_l2 (to_0 : List (Bytes × (List Bytes))) (todo39 : List Bytes) : Nat → (List (Bytes × Bool)) → (List Bytes) → Int → Option ((List (Bytes × Bool)) × (List Bytes))
 | 0, _, _, _ => none
 | m + 1, seen56, todo57, t58 =>
 if t58 < (((lookM to_0 (lat todo39 ((todo39.length : Int) - 1))).getD []).length : Int) then
  (
    ck ((0 : Int) ≤ t58 ∧ t58 < (((lookM to_0 (lat todo39 ((todo39.length : Int) - 1))).getD []).length : Int)) <|
    if (!((lookM seen56 (lat ((lookM to_0 (lat todo39 ((todo39.length : Int) - 1))).getD []) t58)).getD false)) = true then
     ck ((todo57.length + ([lat ((lookM to_0 (lat todo39 ((todo39.length : Int) - 1))).getD []) t58]).length) * 16 ≤ 140737488355328) <|
     some (putM seen56 (lat ((lookM to_0 (lat todo39 ((todo39.length : Int) - 1))).getD []) t58) true, todo57 ++ ([lat ((lookM to_0 (lat todo39 ((todo39.length : Int) - 1))).getD []) t58]))
    else
     some (seen56, todo57)
   : Option ((List (Bytes × Bool)) × (List Bytes))).bind fun q77 =>
  ck (inR (t58 + 1)) <|
  graph_reached_l2 to_0 todo39 m q77.1 q77.2 (t58 + 1)
 else
  some (seen56, todo57)

def graph_reached_l3 (n : Nat) (to_0 : List (Bytes × (List Bytes))) : Nat → (List (Bytes × Bool)) → (List Bytes) → Option (List (Bytes × Bool))
 | 0, _, _ => none
 | m + 1, seen38, todo39 =>
 if 0 < (todo39.length : Int) then
  ck (inR ((todo39.length : Int) - 1)) <|
  ck ((0 : Int) ≤ (todo39.length : Int) - 1 ∧ (todo39.length : Int) - 1 < (todo39.length : Int)) <|
  ck (inR ((todo39.length : Int) - 1)) <|
  ck ((0 : Int) ≤ (todo39.length : Int) - 1 ∧ (todo39.length : Int) - 1 ≤ (todo39.length : Int)) <|
  (graph_reached_l2 to_0 todo39 n seen38 (todo39.take ((todo39.length : Int) - 1).toNat) 0).bind fun q76 =>
  graph_reached_l3 n to_0 m q76.1 q76.2
 else
  some seen38

def graph_reached (n : Nat) (to_0 : List (Bytes × (List Bytes))) (from_1 : List Bytes) : Option (List (Bytes × Bool)) :=
 (graph_set n from_1).bind fun r1 =>
 ck (from_1.length * 16 ≤ 140737488355328) <|
 (graph_reached_l3 n to_0 n r1 from_1).bind fun seen74 =>
 some seen74

set_option maxHeartbeats 4000000 in
theorem graph_reached_ok (n : Nat) (to_0 : List (Bytes × (List Bytes))) (from_1 : List Bytes) (r : (List (Bytes × Bool))) (h0 : graph_reached n to_0 from_1 = some r) : OCalls Tryz.prog 58 [.mp 900000 (to_0.map fun p : Bytes × (List Bytes) => (p.1, (eL eS) p.2)), .p (eL eS from_1)] [] (fun x y => x = .mp 2000000 (r.map fun p : Bytes × Bool => (p.1, eB p.2)) ∧ y = []) := by
 unfold graph_reached at h0
 refine obodyG good [800000] [] Tryz.func58 rfl rfl rfl rfl rfl fun w0 F => mPo (fun v : (List (Bytes × Bool)) => .mp 2000000 (v.map fun p : Bytes × Bool => (p.1, eB p.2))) (fun v => []) ?_
 refine nx 7 rfl (bd h0 fun r1 e2 h0 => ?_)
 refine mO rfl (op_callV [] [] 101000 101001 (graph_set_ok _ from_1 _ e2) rfl rfl rfl rfl rfl ⟨sr, trivial⟩ rfl rfl trivial rfl rfl rfl rfl rfl rfl rfl rfl Tryz.call60 rfl rfl ?_)
 refine nx 5 rfl (cc' h0 fun hk3 h0 => ?_)
 refine mO rfl (op_callV [] [] 102000 102001 (slices_Clone_string_string_stk from_1 hk3) rfl rfl rfl rfl rfl ⟨sr, trivial⟩ rfl rfl trivial rfl rfl rfl rfl rfl rfl rfl rfl Tryz.call65 rfl rfl ?_)
 refine nx 4 rfl (bd h0 fun o78 h1 h0 => ?_)
 refine kE 0 o78 (fun v79 => ⟨[(5, .mp 101000 (v79.map fun p : Bytes × Bool => (p.1, eB p.2)))], []⟩) ?_ ?_
 ·exact nx 7 rfl (mQo (oi h0) (ghost_trans (ghost_ren 101000 800000 rfl rfl rfl rfl rfl) (ghost_refl _)) rfl rfl rfl rfl (sr) trivial)
 refine lG (fun (q80 : (List (Bytes × Bool)) × (List Bytes)) => ⟨[(0, .mp 900000 (to_0.map fun p : Bytes × (List Bytes) => (p.1, (eL eS) p.2))), (5, .mp 101000 (q80.1.map fun p : Bytes × Bool => (p.1, eB p.2))), (6, .stk 102000 1 (q80.2.map eS))], []⟩) (fun m (q80 : (List (Bytes × Bool)) × (List Bytes)) => graph_reached_l3 n to_0 m q80.1 q80.2) (fun _ => rfl) (r1, from_1) h1 (gE rfl rfl) ?_
 rintro m ⟨seen38, todo39⟩ h1
 replace h1 : graph_reached_l3 n to_0 (m + 1) seen38 todo39 = some o78 := h1
 rw [graph_reached_l3] at h1
 refine nx 4 rfl (mO rfl (op_lenSk eS todo39 rfl rfl rfl rfl rfl rfl ?_))
 refine nx 2 rfl (fD [16] h1 rfl (fun c40 h1 => ?_) fun c40 h1 => ?_)
 ·refine nx 7 rfl (mO rfl (op_lenSk eS todo39 rfl rfl rfl rfl rfl rfl ?_))
  refine oA h1 rfl rfl fun hk41 h1 => cc' h1 fun hk42 h1 => mO rfl (op_indexAddrSk eS todo39 rfl rfl rfl rfl rfl rfl rfl rfl rfl hk42 ?_)
  refine mO rfl (op_loadSk eS (fun _ => ⟨rfl, rfl⟩) todo39 6 rfl rfl rfl rfl rfl rfl rfl hk42 ?_)
  refine nx 6 rfl (mO rfl (op_lenSk eS todo39 rfl rfl rfl rfl rfl rfl ?_))
  refine oA h1 rfl rfl fun hk43 h1 => cc' h1 fun hk44 h1 => mO rfl (op_sliceSk eS todo39 rfl rfl rfl rfl rfl rfl rfl rfl hk44 rfl ?_)
  refine nx 6 rfl (mO rfl (op_lookMs eS to_0 rfl rfl rfl rfl rfl rfl rfl (by kernel_rfl) rfl rfl ?_))
  refine oLl (f := eS) rfl rfl (nx 3 rfl ?_)
  refine bd h1 fun o81 h2 h1 => kE 2 o81 (fun v82 => ⟨[(0, .mp 900000 (to_0.map fun p : Bytes × (List Bytes) => (p.1, (eL eS) p.2))), (5, .mp 101000 (v82.1.map fun p : Bytes × Bool => (p.1, eB p.2))), (6, .stk 102000 1 (v82.2.map eS))], []⟩) ?_ ?_
  ·exact nx 1 rfl (eX (o81.1, o81.2) h1 (gE rfl rfl))
  refine lG (fun (q83 : (List (Bytes × Bool)) × (List Bytes) × Int) => ⟨[(0, .mp 900000 (to_0.map fun p : Bytes × (List Bytes) => (p.1, (eL eS) p.2))), (5, .mp 101000 (q83.1.map fun p : Bytes × Bool => (p.1, eB p.2))), (6, .stk 102000 1 (q83.2.1.map eS)), (30, .p (eL eS ((lookM to_0 (lat todo39 ((todo39.length : Int) - 1))).getD []))), (31, .p (eI (((lookM to_0 (lat todo39 ((todo39.length : Int) - 1))).getD []).length : Int))), (32, .p (eI q83.2.2))], []⟩) (fun m (q83 : (List (Bytes × Bool)) × (List Bytes) × Int) => graph_reached_l2 to_0 todo39 m q83.1 q83.2.1 q83.2.2) (fun _ => rfl) (seen38, todo39.take ((todo39.length : Int) - 1).toNat, 0) h2 (gE rfl rfl) ?_
  rintro m ⟨seen56, todo57, t58⟩ h2
  replace h2 : graph_reached_l2 to_0 todo39 (m + 1) seen56 todo57 t58 = some o81 := h2
  rw [graph_reached_l2] at h2
  refine nx 5 rfl (fD [33] h2 rfl (fun c59 h2 => ?_) fun c59 h2 => ?_)
  ·refine nx 3 rfl (bd h2 fun o84 h3 h2 => ?_)
   refine kN o84 (fun v85 => ⟨[(0, .mp 900000 (to_0.map fun p : Bytes × (List Bytes) => (p.1, (eL eS) p.2))), (5, .mp 101000 (v85.1.map fun p : Bytes × Bool => (p.1, eB p.2))), (6, .stk 102000 1 (v85.2.map eS)), (30, .p (eL eS ((lookM to_0 (lat todo39 ((todo39.length : Int) - 1))).getD []))), (31, .p (eI (((lookM to_0 (lat todo39 ((todo39.length : Int) - 1))).getD []).length : Int))), (32, .p (eI t58))], []⟩) ?_ ?_
   ·refine nx 2 rfl (oA h2 rfl rfl fun hk66 h2 => ?_)
    exact nx 2 rfl (eX (o84.1, o84.2, t58 + 1) h2 (gE rfl rfl))
   refine nx 3 rfl (oE h3 (fun _ => rfl) rfl rfl (fun _ => rfl) fun hk60 h3 => ?_)
   refine nx 7 rfl (mO rfl (op_lookMp eB seen56 false rfl rfl rfl rfl rfl rfl rfl (by kernel_rfl) rfl rfl rfl ?_))
   refine nx 2 rfl (fB [39] h3 rfl (fun c61 h3 => ?_) fun c61 h3 => ?_)
   ·refine nx 5 rfl (mO rfl (op_putMp eB seen56 true rfl rfl rfl rfl rfl rfl rfl rfl rfl rfl rfl rfl ?_))
    refine nx 4 rfl (mO rfl (op_bslice eS [lat ((lookM to_0 (lat todo39 ((todo39.length : Int) - 1))).getD []) t58] rfl rfl rfl rfl rfl rfl rfl rfl rfl rfl rfl rfl rfl rfl ?_))
    refine cc' h3 fun hk62 h3 => mO rfl (op_appSk eS (fun _ => ⟨rfl, rfl⟩) todo57 ([lat ((lookM to_0 (lat todo39 ((todo39.length : Int) - 1))).getD []) t58]) rfl rfl rfl rfl rfl rfl rfl rfl rfl rfl rfl rfl (Nat.zero_lt_succ _) rfl rfl rfl hk62 rfl rfl ?_)
    exact nx 2 rfl (eX _ (oi h3).symm (gE rfl rfl))
   exact nx 2 rfl (eX _ (oi h3).symm (gE rfl rfl))
  exact nx 2 rfl (eXi _ (oi h2).symm (gE rfl rfl))
 exact nx 2 rfl (eXi _ (oi h1).symm (gE rfl rfl))

def graph_next_l1 (g_0 : TGraph) : Nat → (List (Bytes × List Bytes)) → Int → Option (List (Bytes × List Bytes))
 | 0, _, _ => none
 | m + 1, out7, t8 =>
 if t8 < (g_0.fEdges.length : Int) then
  ck ((0 : Int) ≤ t8 ∧ t8 < (g_0.fEdges.length : Int)) <|
  ck ((((lookM out7 ((lat g_0.fEdges t8).fFrom)).getD []).length + [(lat g_0.fEdges t8).fTo].length) * 16 ≤ 140737488355328) <|
  ck (inR (t8 + 1)) <|
  graph_next_l1 g_0 m (putM out7 ((lat g_0.fEdges t8).fFrom) (((lookM out7 ((lat g_0.fEdges t8).fFrom)).getD []) ++ [(lat g_0.fEdges t8).fTo])) (t8 + 1)
 else
  some out7

def graph_next (n : Nat) (g_0 : TGraph) : Option (List (Bytes × (List Bytes))) :=
 (graph_next_l1 g_0 n ([] : List (Bytes × List Bytes)) 0).bind fun out15 =>
 some out15

set_option maxHeartbeats 4000000 in
theorem graph_next_ok (n : Nat) (g_0 : TGraph) (r : (List (Bytes × (List Bytes)))) (h0 : graph_next n g_0 = some r) : OCalls Tryz.prog 59 [.p (.agg (TGraph.cs g_0))] [] (fun x y => x = .mp 2000000 (r.map fun p : Bytes × (List Bytes) => (p.1, (eL eS) p.2)) ∧ y = []) := by
 unfold graph_next at h0
 refine obodyG good [800000] [] Tryz.func59 rfl rfl rfl rfl rfl fun w0 F => mPo (fun v : (List (Bytes × (List Bytes))) => .mp 2000000 (v.map fun p : Bytes × (List Bytes) => (p.1, (eL eS) p.2))) (fun v => []) ?_
 refine nx 9 rfl (oLl (f := eS) rfl rfl ?_)
 refine mO rfl (ok_makeMapRowH 1 0 rfl rfl rfl rfl rfl rfl rfl rfl ?_)
 refine nx 7 rfl (oLl (f := eTEdge) rfl rfl ?_)
 refine nx 3 rfl (bd h0 fun o17 h1 h0 => ?_)
 refine kE 0 o17 (fun v18 => ⟨[(3, .mpr 9 1 0 none (v18.map fun p : Bytes × List Bytes => (p.1, p.2.map eS)))], []⟩) ?_ ?_
 ·refine nx 6 rfl (mG (t := ⟨[(2, .mp 9 (o17.map fun p : Bytes × (List Bytes) => (p.1, (eL eS) p.2)))], []⟩) (ghost_le (le_mk ⟨⟨_, rfl, sub_mprmp _ _ _ eS o17⟩, trivial⟩ trivial)) ?_)
  exact nx 1 rfl (mQo (oi h0) (ghost_trans (ghost_ren 9 800000 rfl rfl rfl rfl rfl) (ghost_refl _)) rfl rfl rfl rfl (sr) trivial)
 refine lG (fun (q19 : (List (Bytes × List Bytes)) × Int) => ⟨[(3, .mpr 9 1 0 none (q19.1.map fun p : Bytes × List Bytes => (p.1, p.2.map eS))), (11, .p (eL eTEdge g_0.fEdges)), (12, .p (eI (g_0.fEdges.length : Int))), (13, .p (eI q19.2))], []⟩) (fun m (q19 : (List (Bytes × List Bytes)) × Int) => graph_next_l1 g_0 m q19.1 q19.2) (fun _ => rfl) (([] : List (Bytes × List Bytes)), 0) h1 (gE rfl rfl) ?_
 rintro m ⟨out7, t8⟩ h1
 replace h1 : graph_next_l1 g_0 (m + 1) out7 t8 = some o17 := h1
 rw [graph_next_l1] at h1
 refine nx 5 rfl (fD [14] h1 rfl (fun c9 h1 => ?_) fun c9 h1 => ?_)
 ·refine nx 6 rfl (oE h1 TEdge.cells_eq rfl rfl (fun _ => rfl) fun hk10 h1 => ?_)
  refine nx 4 rfl (cc' h1 fun hk11 h1 => ?_)
  refine mG (gE (t := ⟨[(3, .mpr 9 1 0 none (out7.map fun p : Bytes × List Bytes => (p.1, p.2.map eS))), (5, .ptr 5 0), (11, .p (eL eTEdge g_0.fEdges)), (12, .p (eI (g_0.fEdges.length : Int))), (13, .p (eI t8))], [(5, (TEdge.cs (lat g_0.fEdges t8)).map .p)]⟩) rfl rfl) (mS ⟨3, [6, 10, 11], (by4 (.fn (tkA 9 23 (.mpr 9 1 0 (some ((lat g_0.fEdges t8).fFrom)) (out7.map fun p : Bytes × List Bytes => (p.1, p.2.map eS))))) (.some fun i => Nat.beq i 23 || Nat.beq i 27) (.fn (tkA 9 27 (.mpr 9 1 0 none ((putM out7 ((lat g_0.fEdges t8).fFrom) (((lookM out7 ((lat g_0.fEdges t8).fFrom)).getD []) ++ [(lat g_0.fEdges t8).fTo])).map fun p : Bytes × List Bytes => (p.1, p.2.map eS))))) .none), (by4 [(3, .mpr 9 1 0 none (out7.map fun p : Bytes × List Bytes => (p.1, p.2.map eS))), (5, .ptr 5 0), (11, .p (eL eTEdge g_0.fEdges)), (12, .p (eI (g_0.fEdges.length : Int))), (13, .p (eI t8))] [(3, .mpr 9 1 0 (some ((lat g_0.fEdges t8).fFrom)) (out7.map fun p : Bytes × List Bytes => (p.1, p.2.map eS))), (5, .ptr 5 0), (11, .p (eL eTEdge g_0.fEdges)), (12, .p (eI (g_0.fEdges.length : Int))), (13, .p (eI t8))] [(3, .mpr 9 1 0 (some ((lat g_0.fEdges t8).fFrom)) (out7.map fun p : Bytes × List Bytes => (p.1, p.2.map eS))), (5, .ptr 5 0), (11, .p (eL eTEdge g_0.fEdges)), (12, .p (eI (g_0.fEdges.length : Int))), (13, .p (eI t8))] ([(3, .mpr 9 1 0 none ((putM out7 ((lat g_0.fEdges t8).fFrom) (((lookM out7 ((lat g_0.fEdges t8).fFrom)).getD []) ++ [(lat g_0.fEdges t8).fTo])).map fun p : Bytes × List Bytes => (p.1, p.2.map eS))), (5, .ptr 5 0), (11, .p (eL eTEdge g_0.fEdges)), (12, .p (eI (g_0.fEdges.length : Int))), (13, .p (eI t8))])), (fun _ => [(5, [.p (eS ((lat g_0.fEdges t8).fFrom)), .p (eS ((lat g_0.fEdges t8).fTo))])])⟩ rfl rfl rfl ⟨rfl, rfl, rfl, rfl, rfl, trivial⟩ (lt3 ⟨rfl, rfl, rfl, rfl, rfl, trivial⟩ ⟨rfl, rfl, rfl, rfl, rfl, trivial⟩ ⟨rfl, rfl, rfl, rfl, rfl, trivial⟩) rfl rfl rfl rfl ?_)
  refine ds_pure (by4 (.mpr 9 1 0 none (out7.map fun p : Bytes × List Bytes => (p.1, p.2.map eS))) (.mpr 9 1 0 (some ((lat g_0.fEdges t8).fFrom)) (out7.map fun p : Bytes × List Bytes => (p.1, p.2.map eS))) (.mpr 9 1 0 (some ((lat g_0.fEdges t8).fFrom)) (out7.map fun p : Bytes × List Bytes => (p.1, p.2.map eS))) (.mpr 9 1 0 none ((putM out7 ((lat g_0.fEdges t8).fFrom) (((lookM out7 ((lat g_0.fEdges t8).fFrom)).getD []) ++ [(lat g_0.fEdges t8).fTo])).map fun p : Bytes × List Bytes => (p.1, p.2.map eS)))) rfl rfl rfl (all4 rfl rfl rfl (fun _ => rfl)) (lt3 rfl rfl rfl) (stg_no rfl (stg_yes [(3, _)] ⟨.inl rfl, trivial⟩ (fun sl hsl K hK => one_op rfl (ok_move rfl rfl rfl (hsl _ _ rfl) hK)) (stg_yes [(3, _)] ⟨.inl rfl, trivial⟩ (fun sl hsl K hK => one_op rfl (ok_move rfl rfl rfl (hsl _ _ rfl) hK)) (stg_yes [(3, _)] ⟨.inl rfl, trivial⟩ (fun sl hsl K hK => one_op rfl (ok_move rfl rfl rfl (hsl _ _ rfl) hK)) stg_nil)))) (ds_pure (fun _ => .ptr 5 0) rfl rfl rfl (all4 rfl rfl rfl (fun _ => rfl)) (lt3 rfl rfl rfl) (stg_no rfl (stg_yes [(5, _)] ⟨.inl rfl, trivial⟩ (fun sl hsl K hK => one_op rfl (ok_fieldAddrP rfl rfl rfl rfl rfl rfl rfl rfl (hsl _ _ rfl) hK)) (stg_yes [(5, _)] ⟨.inl rfl, trivial⟩ (fun sl hsl K hK => one_op rfl (ok_fieldAddrP rfl rfl rfl rfl rfl rfl rfl rfl (hsl _ _ rfl) hK)) (stg_yes [(5, _)] ⟨.inl rfl, trivial⟩ (fun sl hsl K hK => one_op rfl (ok_fieldAddrP rfl rfl rfl rfl rfl rfl rfl rfl (hsl _ _ rfl) hK)) stg_nil)))) ?_)
  refine ds_pure (fun _ => .p (eS ((lat g_0.fEdges t8).fFrom))) rfl rfl rfl (all4 rfl rfl rfl (fun _ => rfl)) (lt3 rfl rfl rfl) (stg_no rfl (stg_yes [(18, _)] ⟨.inr ⟨1, _, rfl, rfl, rfl⟩, trivial⟩ (fun sl hsl K hK => one_op rfl (ok_loadP1 rfl rfl rfl rfl rfl (hsl _ _ rfl) rfl rfl hK)) (stg_yes [(18, _)] ⟨.inr ⟨1, _, rfl, rfl, rfl⟩, trivial⟩ (fun sl hsl K hK => one_op rfl (ok_loadP1 rfl rfl rfl rfl rfl (hsl _ _ rfl) rfl rfl hK)) (stg_yes [(18, _)] ⟨.inr ⟨1, _, rfl, rfl, rfl⟩, trivial⟩ (fun sl hsl K hK => one_op rfl (ok_loadP1 rfl rfl rfl rfl rfl (hsl _ _ rfl) rfl rfl hK)) stg_nil)))) (ds_pure (by4 (.mpr 9 1 0 none (out7.map fun p : Bytes × List Bytes => (p.1, p.2.map eS))) (.mpr 9 1 0 (some ((lat g_0.fEdges t8).fFrom)) (out7.map fun p : Bytes × List Bytes => (p.1, p.2.map eS))) (.mpr 9 1 0 (some ((lat g_0.fEdges t8).fFrom)) (out7.map fun p : Bytes × List Bytes => (p.1, p.2.map eS))) (.mpr 9 1 0 none ((putM out7 ((lat g_0.fEdges t8).fFrom) (((lookM out7 ((lat g_0.fEdges t8).fFrom)).getD []) ++ [(lat g_0.fEdges t8).fTo])).map fun p : Bytes × List Bytes => (p.1, p.2.map eS)))) rfl rfl rfl (all4 rfl rfl rfl (fun _ => rfl)) (lt3 rfl rfl rfl) (stg_no rfl (stg_no rfl (stg_no rfl (stg_yes [(3, _)] ⟨.inl rfl, trivial⟩ (fun sl hsl K hK => one_op rfl (ok_move rfl rfl rfl (hsl _ _ rfl) hK)) stg_nil)))) ?_)
  refine ds_pure (fun _ => .ptr 5 0) rfl rfl rfl (all4 rfl rfl rfl (fun _ => rfl)) (lt3 rfl rfl rfl) (stg_no rfl (stg_yes [(5, _)] ⟨.inl rfl, trivial⟩ (fun sl hsl K hK => one_op rfl (ok_fieldAddrP rfl rfl rfl rfl rfl rfl rfl rfl (hsl _ _ rfl) hK)) (stg_yes [(5, _)] ⟨.inl rfl, trivial⟩ (fun sl hsl K hK => one_op rfl (ok_fieldAddrP rfl rfl rfl rfl rfl rfl rfl rfl (hsl _ _ rfl) hK)) (stg_yes [(5, _)] ⟨.inl rfl, trivial⟩ (fun sl hsl K hK => one_op rfl (ok_fieldAddrP rfl rfl rfl rfl rfl rfl rfl rfl (hsl _ _ rfl) hK)) stg_nil)))) (ds_pure (fun _ => .p (eS ((lat g_0.fEdges t8).fFrom))) rfl rfl rfl (all4 rfl rfl rfl (fun _ => rfl)) (lt3 rfl rfl rfl) (stg_no rfl (stg_no rfl (stg_no rfl (stg_yes [(21, _)] ⟨.inr ⟨4, _, rfl, rfl, rfl⟩, trivial⟩ (fun sl hsl K hK => one_op rfl (ok_loadP1 rfl rfl rfl rfl rfl (hsl _ _ rfl) rfl rfl hK)) stg_nil)))) ?_)
  refine ds_imp (by4 (.vec 23 1 0 (((lookM out7 ((lat g_0.fEdges t8).fFrom)).getD []).map eS)) (.vec 23 1 0 (((lookM out7 ((lat g_0.fEdges t8).fFrom)).getD []).map eS)) (.p (eL eS ((lookM out7 ((lat g_0.fEdges t8).fFrom)).getD []))) (.p (eL eS ((lookM out7 ((lat g_0.fEdges t8).fFrom)).getD [])))) [(20, _), (22, _)] rfl ⟨.inr ⟨3, _, rfl, rfl, rfl⟩, .inr ⟨5, _, rfl, rfl, rfl⟩, trivial⟩ rfl rfl (all3 rfl rfl (fun _ => rfl)) (lt3 (fun h => absurd h (by decide)) (fun _ => rfl) (fun _ => rfl)) (fun sl hsl K hK => one_op rfl (op_takeMrS eS out7 rfl rfl rfl rfl rfl rfl rfl (by kernel_rfl) (hsl _ _ rfl) (hsl _ _ rfl) rfl rfl rfl hK)) (ds_pure (fun _ => .ptr 5 1) rfl rfl rfl (all4 rfl rfl rfl (fun _ => rfl)) (lt3 rfl rfl rfl) (stg_no rfl (stg_yes [(5, _)] ⟨.inl rfl, trivial⟩ (fun sl hsl K hK => one_op rfl (ok_fieldAddrP rfl rfl rfl rfl rfl rfl rfl rfl (hsl _ _ rfl) hK)) (stg_yes [(5, _)] ⟨.inl rfl, trivial⟩ (fun sl hsl K hK => one_op rfl (ok_fieldAddrP rfl rfl rfl rfl rfl rfl rfl rfl (hsl _ _ rfl) hK)) (stg_yes [(5, _)] ⟨.inl rfl, trivial⟩ (fun sl hsl K hK => one_op rfl (ok_fieldAddrP rfl rfl rfl rfl rfl rfl rfl rfl (hsl _ _ rfl) hK)) stg_nil)))) ?_)
  refine ds_pure (fun _ => .p (eS ((lat g_0.fEdges t8).fTo))) rfl rfl rfl (all4 rfl rfl rfl (fun _ => rfl)) (lt3 rfl rfl rfl) (stg_no rfl (stg_yes [(24, _)] ⟨.inr ⟨7, _, rfl, rfl, rfl⟩, trivial⟩ (fun sl hsl K hK => one_op rfl (ok_loadP1 rfl rfl rfl rfl rfl (hsl _ _ rfl) rfl rfl hK)) (stg_yes [(24, _)] ⟨.inr ⟨7, _, rfl, rfl, rfl⟩, trivial⟩ (fun sl hsl K hK => one_op rfl (ok_loadP1 rfl rfl rfl rfl rfl (hsl _ _ rfl) rfl rfl hK)) (stg_yes [(24, _)] ⟨.inr ⟨7, _, rfl, rfl, rfl⟩, trivial⟩ (fun sl hsl K hK => one_op rfl (ok_loadP1 rfl rfl rfl rfl rfl (hsl _ _ rfl) rfl rfl hK)) stg_nil)))) (ds_pure (fun _ => .p (eL eS [(lat g_0.fEdges t8).fTo])) rfl rfl rfl (all4 rfl rfl rfl (fun _ => rfl)) (lt3 rfl rfl rfl) (stg_no rfl (stg_no rfl (stg_yes [(25, _)] ⟨.inr ⟨8, _, rfl, rfl, rfl⟩, trivial⟩ (fun sl hsl K hK => one_op rfl (op_bslice eS [(lat g_0.fEdges t8).fTo] rfl rfl rfl rfl rfl rfl (elems_cons (hsl _ _ rfl) rfl elems_nil) rfl rfl rfl rfl rfl rfl rfl hK)) (stg_yes [(25, _)] ⟨.inr ⟨8, _, rfl, rfl, rfl⟩, trivial⟩ (fun sl hsl K hK => one_op rfl (op_bslice eS [(lat g_0.fEdges t8).fTo] rfl rfl rfl rfl rfl rfl (elems_cons (hsl _ _ rfl) rfl elems_nil) rfl rfl rfl rfl rfl rfl rfl hK)) stg_nil)))) ?_)
  refine ds_imp (by4 (.vec 27 1 0 ((((lookM out7 ((lat g_0.fEdges t8).fFrom)).getD []) ++ [(lat g_0.fEdges t8).fTo]).map eS)) (.vec 27 1 0 ((((lookM out7 ((lat g_0.fEdges t8).fFrom)).getD []) ++ [(lat g_0.fEdges t8).fTo]).map eS)) (.vec 27 1 0 ((((lookM out7 ((lat g_0.fEdges t8).fFrom)).getD []) ++ [(lat g_0.fEdges t8).fTo]).map eS)) (.p (eL eS (((lookM out7 ((lat g_0.fEdges t8).fFrom)).getD []) ++ [(lat g_0.fEdges t8).fTo])))) [(23, _), (26, _)] rfl ⟨.inr ⟨6, _, rfl, rfl, rfl⟩, .inr ⟨9, _, rfl, rfl, rfl⟩, trivial⟩ rfl rfl (all2 rfl (fun _ => rfl)) (lt3 (fun h => absurd h (by decide)) (fun h => absurd h (by decide)) (fun _ => rfl)) (fun sl hsl K hK => one_op rfl (op_appV eS ((lookM out7 ((lat g_0.fEdges t8).fFrom)).getD []) [(lat g_0.fEdges t8).fTo] rfl rfl rfl rfl rfl rfl rfl rfl (hsl _ _ rfl) rfl rfl (hsl _ _ rfl) rfl (fun _ => rfl) rfl rfl rfl rfl hk11 hK)) (ds_store [(17, _), (19, _), (27, _)] rfl ⟨.inr ⟨0, _, rfl, rfl, rfl⟩, .inr ⟨2, _, rfl, rfl, rfl⟩, .inr ⟨10, _, rfl, rfl, rfl⟩, trivial⟩ rfl (fun sl hsl K hK => one_op rfl (op_putMrS eS out7 (((lookM out7 ((lat g_0.fEdges t8).fFrom)).getD []) ++ [(lat g_0.fEdges t8).fTo]) rfl rfl rfl rfl rfl rfl (hsl _ _ rfl) (hsl _ _ rfl) (hsl _ _ rfl) rfl rfl rfl rfl hK)) ?_)
  refine ds_nil (nx 2 rfl ?_)
  exact oA h1 rfl rfl fun hk12 h1 => nx 2 rfl (eX (putM out7 ((lat g_0.fEdges t8).fFrom) (((lookM out7 ((lat g_0.fEdges t8).fFrom)).getD []) ++ [(lat g_0.fEdges t8).fTo]), t8 + 1) h1 (gE rfl rfl))
 exact nx 2 rfl (eXi _ (oi h1).symm (gE rfl rfl))

def graph_Reach (n : Nat) (g_0 : TGraph) (from_1 : List Bytes) : Option (List Bytes) :=
 (graph_next n g_0).bind fun r1 =>
 (graph_set n from_1).bind fun r3 =>
 (graph_only n g_0.fNodes r3).bind fun r5 =>
 (graph_reached n r1 r5).bind fun r7 =>
 (graph_only n g_0.fNodes r7).bind fun r9 =>
 some r9

set_option maxHeartbeats 4000000 in
theorem graph_Reach_ok (n : Nat) (g_0 : TGraph) (from_1 : List Bytes) (r : (List Bytes)) (h0 : graph_Reach n g_0 from_1 = some r) : PCalls Tryz.prog 37 [.agg (TGraph.cs g_0), eL eS from_1] (· = .p (eL eS r)) := by
 unfold graph_Reach at h0
 refine pbodyA good Tryz.func37 rfl rfl rfl fun w0 => mP (fun v : (List Bytes) => .p (eL eS v)) ?_
 refine nx 6 rfl (bd h0 fun r1 e2 h0 => ?_)
 refine bd h0 fun r3 e4 h0 => bd h0 fun r5 e6 h0 => bd h0 fun r7 e8 h0 => bd h0 fun r9 e10 h0 => mG (gE (t := ⟨[(1, .p (eL eS from_1)), (2, .ptr 2 0)], [(2, (TGraph.cs g_0).map .p)]⟩) rfl rfl) (mS ⟨5, [3, 7, 8, 9, 10], (by6 (.some (dropV [] 101000 101001)) (.some (dropV [] 102000 102001)) (.some (dropV [102000] 103000 103000)) (.some (dropV [101000] 104000 104001)) (.some (dropV [104000] 105000 105000)) .none), (fun _ => [(1, .p (eL eS from_1)), (2, .ptr 2 0)]), (fun _ => [(2, [.p (eL eS g_0.fNodes), .p (eL eTEdge g_0.fEdges)])])⟩ rfl rfl rfl ⟨rfl, rfl, trivial⟩ (lt5 ⟨rfl, rfl, trivial⟩ ⟨rfl, rfl, trivial⟩ ⟨rfl, rfl, trivial⟩ ⟨rfl, rfl, trivial⟩ ⟨rfl, rfl, trivial⟩) rfl rfl rfl rfl ?_)
 refine ds_pure (fun _ => .ptr 2 0) rfl rfl rfl (all6 rfl rfl rfl rfl rfl (fun _ => rfl)) (lt5 rfl rfl rfl rfl rfl) (stg_yes [(2, _)] ⟨.inl rfl, trivial⟩ (fun sl hsl K hK => one_op rfl (ok_fieldAddrP rfl rfl rfl rfl rfl rfl rfl rfl (hsl _ _ rfl) hK)) (stg_yes [(2, _)] ⟨.inl rfl, trivial⟩ (fun sl hsl K hK => one_op rfl (ok_fieldAddrP rfl rfl rfl rfl rfl rfl rfl rfl (hsl _ _ rfl) hK)) (stg_yes [(2, _)] ⟨.inl rfl, trivial⟩ (fun sl hsl K hK => one_op rfl (ok_fieldAddrP rfl rfl rfl rfl rfl rfl rfl rfl (hsl _ _ rfl) hK)) (stg_yes [(2, _)] ⟨.inl rfl, trivial⟩ (fun sl hsl K hK => one_op rfl (ok_fieldAddrP rfl rfl rfl rfl rfl rfl rfl rfl (hsl _ _ rfl) hK)) (stg_yes [(2, _)] ⟨.inl rfl, trivial⟩ (fun sl hsl K hK => one_op rfl (ok_fieldAddrP rfl rfl rfl rfl rfl rfl rfl rfl (hsl _ _ rfl) hK)) (stg_yes [(2, _)] ⟨.inl rfl, trivial⟩ (fun sl hsl K hK => one_op rfl (ok_fieldAddrP rfl rfl rfl rfl rfl rfl rfl rfl (hsl _ _ rfl) hK)) stg_nil)))))) (ds_pure (fun _ => .p (eL eS g_0.fNodes)) rfl rfl rfl (all6 rfl rfl rfl rfl rfl (fun _ => rfl)) (lt5 rfl rfl rfl rfl rfl) (stg_no rfl (stg_yes [(5, _)] ⟨.inr ⟨0, _, rfl, rfl, rfl⟩, trivial⟩ (fun sl hsl K hK => one_op rfl (ok_loadP1 rfl rfl rfl rfl rfl (hsl _ _ rfl) rfl rfl hK)) (stg_yes [(5, _)] ⟨.inr ⟨0, _, rfl, rfl, rfl⟩, trivial⟩ (fun sl hsl K hK => one_op rfl (ok_loadP1 rfl rfl rfl rfl rfl (hsl _ _ rfl) rfl rfl hK)) (stg_yes [(5, _)] ⟨.inr ⟨0, _, rfl, rfl, rfl⟩, trivial⟩ (fun sl hsl K hK => one_op rfl (ok_loadP1 rfl rfl rfl rfl rfl (hsl _ _ rfl) rfl rfl hK)) (stg_yes [(5, _)] ⟨.inr ⟨0, _, rfl, rfl, rfl⟩, trivial⟩ (fun sl hsl K hK => one_op rfl (ok_loadP1 rfl rfl rfl rfl rfl (hsl _ _ rfl) rfl rfl hK)) (stg_yes [(5, _)] ⟨.inr ⟨0, _, rfl, rfl, rfl⟩, trivial⟩ (fun sl hsl K hK => one_op rfl (ok_loadP1 rfl rfl rfl rfl rfl (hsl _ _ rfl) rfl rfl hK)) stg_nil)))))) ?_)
 refine ds_pure (fun _ => .p (.agg (TGraph.cs g_0))) rfl rfl rfl (all6 rfl rfl rfl rfl rfl (fun _ => rfl)) (lt5 rfl rfl rfl rfl rfl) (stg_no rfl (stg_no rfl (stg_no rfl (stg_no rfl (stg_no rfl (stg_yes [(2, _)] ⟨.inl rfl, trivial⟩ (fun sl hsl K hK => one_op rfl (ok_loadPA rfl rfl rfl rfl rfl (hsl _ _ rfl) rfl rfl rfl hK)) stg_nil)))))) (ds_imp (by6 (.mp 101000 (r1.map fun p : Bytes × (List Bytes) => (p.1, (eL eS) p.2))) (.mp 101000 (r1.map fun p : Bytes × (List Bytes) => (p.1, (eL eS) p.2))) (.mp 101000 (r1.map fun p : Bytes × (List Bytes) => (p.1, (eL eS) p.2))) (.mp 101000 (r1.map fun p : Bytes × (List Bytes) => (p.1, (eL eS) p.2))) .undef .undef) [(7, _)] rfl ⟨.inr ⟨2, _, rfl, rfl, rfl⟩, trivial⟩ rfl rfl (all5 rfl rfl rfl rfl (fun _ => rfl)) (lt5 (fun h => absurd h (by decide)) (fun _ => rfl) (fun _ => rfl) (fun _ => rfl) (fun _ => rfl)) (fun sl hsl K hK => one_op rfl (op_callV [] [] 101000 101001 (graph_next_ok _ g_0 _ e2) rfl rfl rfl (args_cons (hsl _ _ rfl) args_nil) rfl ⟨sr, trivial⟩ rfl rfl trivial rfl rfl rfl rfl rfl rfl rfl rfl Tryz.call59 rfl rfl hK)) ?_)
 refine ds_pure (fun _ => .ptr 2 0) rfl rfl rfl (all6 rfl rfl rfl rfl rfl (fun _ => rfl)) (lt5 rfl rfl rfl rfl rfl) (stg_yes [(2, _)] ⟨.inl rfl, trivial⟩ (fun sl hsl K hK => one_op rfl (ok_fieldAddrP rfl rfl rfl rfl rfl rfl rfl rfl (hsl _ _ rfl) hK)) (stg_yes [(2, _)] ⟨.inl rfl, trivial⟩ (fun sl hsl K hK => one_op rfl (ok_fieldAddrP rfl rfl rfl rfl rfl rfl rfl rfl (hsl _ _ rfl) hK)) (stg_yes [(2, _)] ⟨.inl rfl, trivial⟩ (fun sl hsl K hK => one_op rfl (ok_fieldAddrP rfl rfl rfl rfl rfl rfl rfl rfl (hsl _ _ rfl) hK)) (stg_yes [(2, _)] ⟨.inl rfl, trivial⟩ (fun sl hsl K hK => one_op rfl (ok_fieldAddrP rfl rfl rfl rfl rfl rfl rfl rfl (hsl _ _ rfl) hK)) (stg_yes [(2, _)] ⟨.inl rfl, trivial⟩ (fun sl hsl K hK => one_op rfl (ok_fieldAddrP rfl rfl rfl rfl rfl rfl rfl rfl (hsl _ _ rfl) hK)) (stg_yes [(2, _)] ⟨.inl rfl, trivial⟩ (fun sl hsl K hK => one_op rfl (ok_fieldAddrP rfl rfl rfl rfl rfl rfl rfl rfl (hsl _ _ rfl) hK)) stg_nil)))))) (ds_pure (fun _ => .p (eL eS g_0.fNodes)) rfl rfl rfl (all6 rfl rfl rfl rfl rfl (fun _ => rfl)) (lt5 rfl rfl rfl rfl rfl) (stg_no rfl (stg_no rfl (stg_no rfl (stg_yes [(9, _)] ⟨.inr ⟨4, _, rfl, rfl, rfl⟩, trivial⟩ (fun sl hsl K hK => one_op rfl (ok_loadP1 rfl rfl rfl rfl rfl (hsl _ _ rfl) rfl rfl hK)) (stg_yes [(9, _)] ⟨.inr ⟨4, _, rfl, rfl, rfl⟩, trivial⟩ (fun sl hsl K hK => one_op rfl (ok_loadP1 rfl rfl rfl rfl rfl (hsl _ _ rfl) rfl rfl hK)) (stg_yes [(9, _)] ⟨.inr ⟨4, _, rfl, rfl, rfl⟩, trivial⟩ (fun sl hsl K hK => one_op rfl (ok_loadP1 rfl rfl rfl rfl rfl (hsl _ _ rfl) rfl rfl hK)) stg_nil)))))) ?_)
 refine ds_pure (fun _ => .p (eL eS from_1)) rfl rfl rfl (all6 rfl rfl rfl rfl rfl (fun _ => rfl)) (lt5 rfl rfl rfl rfl rfl) (stg_no rfl (stg_no rfl (stg_no rfl (stg_no rfl (stg_yes [(1, _)] ⟨.inl rfl, trivial⟩ (fun sl hsl K hK => one_op rfl (ok_move rfl rfl rfl (hsl _ _ rfl) hK)) (stg_yes [(1, _)] ⟨.inl rfl, trivial⟩ (fun sl hsl K hK => one_op rfl (ok_move rfl rfl rfl (hsl _ _ rfl) hK)) stg_nil)))))) (ds_imp (by6 (.mp 102000 (r3.map fun p : Bytes × Bool => (p.1, eB p.2))) (.mp 102000 (r3.map fun p : Bytes × Bool => (p.1, eB p.2))) (.mp 102000 (r3.map fun p : Bytes × Bool => (p.1, eB p.2))) .undef .undef .undef) [(11, _)] rfl ⟨.inr ⟨6, _, rfl, rfl, rfl⟩, trivial⟩ rfl rfl (all4 rfl rfl rfl (fun _ => rfl)) (lt5 (fun h => absurd h (by decide)) (fun h => absurd h (by decide)) (fun _ => rfl) (fun _ => rfl) (fun _ => rfl)) (fun sl hsl K hK => one_op rfl (op_callV [] [] 102000 102001 (graph_set_ok _ from_1 _ e4) rfl rfl rfl (args_cons (hsl _ _ rfl) args_nil) rfl ⟨sr, trivial⟩ rfl rfl trivial rfl rfl rfl rfl rfl rfl rfl rfl Tryz.call60 rfl rfl hK)) ?_)
 refine ds_imp (fun _ => .p (eL eS r5)) [(10, _), (12, _)] rfl ⟨.inr ⟨5, _, rfl, rfl, rfl⟩, .inr ⟨7, _, rfl, rfl, rfl⟩, trivial⟩ rfl rfl (all3 rfl rfl (fun _ => rfl)) (lt5 (fun h => absurd h (by decide)) (fun h => absurd h (by decide)) (fun h => absurd h (by decide)) (fun _ => rfl) (fun _ => rfl)) (fun sl hsl K hK => one_op rfl (op_callV [] [102000] 103000 103000 (graph_only_ok _ g_0.fNodes r3 _ e6) rfl rfl rfl (args_cons (hsl _ _ rfl) (args_cons (hsl _ _ rfl) args_nil)) rfl ⟨sr, sr, trivial⟩ rfl rfl trivial rfl rfl rfl rfl rfl rfl rfl rfl Tryz.call57 rfl rfl hK)) (ds_imp (by6 (.mp 104000 (r7.map fun p : Bytes × Bool => (p.1, eB p.2))) (.mp 104000 (r7.map fun p : Bytes × Bool => (p.1, eB p.2))) (.mp 104000 (r7.map fun p : Bytes × Bool => (p.1, eB p.2))) (.mp 104000 (r7.map fun p : Bytes × Bool => (p.1, eB p.2))) (.mp 104000 (r7.map fun p : Bytes × Bool => (p.1, eB p.2))) .undef) [(8, _), (13, _)] rfl ⟨.inr ⟨3, _, rfl, rfl, rfl⟩, .inr ⟨8, _, rfl, rfl, rfl⟩, trivial⟩ rfl rfl (all2 rfl (fun _ => rfl)) (lt5 (fun h => absurd h (by decide)) (fun h => absurd h (by decide)) (fun h => absurd h (by decide)) (fun h => absurd h (by decide)) (fun _ => rfl)) (fun sl hsl K hK => one_op rfl (op_callV [] [101000] 104000 104001 (graph_reached_ok _ r1 r5 _ e8) rfl rfl rfl (args_cons (hsl _ _ rfl) (args_cons (hsl _ _ rfl) args_nil)) rfl ⟨sr, sr, trivial⟩ rfl rfl trivial rfl rfl rfl rfl rfl rfl rfl rfl Tryz.call58 rfl rfl hK)) ?_)
 refine ds_imp (fun _ => .p (eL eS r9)) [(6, _), (14, _)] rfl ⟨.inr ⟨1, _, rfl, rfl, rfl⟩, .inr ⟨9, _, rfl, rfl, rfl⟩, trivial⟩ rfl rfl (fun _ => rfl) (lt5 (fun h => absurd h (by decide)) (fun h => absurd h (by decide)) (fun h => absurd h (by decide)) (fun h => absurd h (by decide)) (fun h => absurd h (by decide))) (fun sl hsl K hK => one_op rfl (op_callV [] [104000] 105000 105000 (graph_only_ok _ g_0.fNodes r7 _ e10) rfl rfl rfl (args_cons (hsl _ _ rfl) (args_cons (hsl _ _ rfl) args_nil)) rfl ⟨sr, sr, trivial⟩ rfl rfl trivial rfl rfl rfl rfl rfl rfl rfl rfl Tryz.call57 rfl rfl hK)) (ds_pure (fun _ => .p (eL eS r9)) rfl rfl rfl (all6 rfl rfl rfl rfl rfl (fun _ => rfl)) (lt5 rfl rfl rfl rfl rfl) (stg_yes [(15, _)] ⟨.inr ⟨10, _, rfl, rfl, rfl⟩, trivial⟩ (fun sl hsl K hK => one_op rfl (ok_assign rfl rfl rfl (hsl _ _ rfl) hK)) (stg_no rfl (stg_no rfl (stg_no rfl (stg_no rfl (stg_no rfl stg_nil)))))) ?_)
 refine ds_nil (nx 2 rfl ?_)
 exact mQ (oi h0) rfl (sr)

end Go.Ab.R06
