/- Chapter 06. -/
import Derived.Test.YtijgdpmadidpaaaGreatDoorR06f
set_option linter.unusedVariables false
set_option linter.unusedSimpArgs false
set_option linter.unnecessarySimpa false
namespace Go.Ab.R06
open Go.Proofs Go.Ab Go.Ab.RB
attribute [local irreducible] awp rwpL OpOk PCalls OCalls AV.sub M Ghost

def slices_CompareFunc_api_ModuleStep_api_ModuleStep_api_ModuleStep_api_ModuleStep_l1 (s1_0 : List TModuleStep) (s2_1 : List TModuleStep) (cmp_2 : TModuleStep → TModuleStep → Option Int) : Nat → Int → Option (Unit ⊕ Int)
 | 0, _ => none
 | m + 1, t10 =>
 if t10 < (s1_0.length : Int) then
  ck ((0 : Int) ≤ t10 ∧ t10 < (s1_0.length : Int)) <|
  if (s2_1.length : Int) ≤ t10 then
   some (.inr 1)
  else
   ck ((0 : Int) ≤ t10 ∧ t10 < (s2_1.length : Int)) <|
   (cmp_2 (lat s1_0 t10) (lat s2_1 t10)).bind fun r15 =>
   if r15 = 0 then
    ck (inR (t10 + 1)) <|
    slices_CompareFunc_api_ModuleStep_api_ModuleStep_api_ModuleStep_api_ModuleStep_l1 s1_0 s2_1 cmp_2 m (t10 + 1)
   else
    some (.inr r15)
 else
  some (.inl ())

def slices_CompareFunc_api_ModuleStep_api_ModuleStep_api_ModuleStep_api_ModuleStep (n : Nat) (s1_0 : List TModuleStep) (s2_1 : List TModuleStep) (cmp_2 : TModuleStep → TModuleStep → Option Int) : Option Int :=
 jn (slices_CompareFunc_api_ModuleStep_api_ModuleStep_api_ModuleStep_api_ModuleStep_l1 s1_0 s2_1 cmp_2 n 0) fun q21 =>
 if (s1_0.length : Int) < (s2_1.length : Int) then
  some (-1)
 else
  some 0

set_option maxHeartbeats 4000000 in
theorem slices_CompareFunc_api_ModuleStep_api_ModuleStep_api_ModuleStep_api_ModuleStep_ok (n : Nat) (s1_0 : List TModuleStep) (s2_1 : List TModuleStep) (cmp_2 : TModuleStep → TModuleStep → Option Int) (F_cmp_2 : FuncId) (C_cmp_2 : List AV) (K_cmp_2 : AV.mapA.go (fun _ => none) C_cmp_2 = some C_cmp_2) (E_cmp_2 : ∀ vs w, (callFunc F_cmp_2 vs).run Tryz.prog w = .ok (.enter F_cmp_2 vs) w) (H_cmp_2 : ∀ (x0 : TModuleStep) (x1 : TModuleStep) r, cmp_2 x0 x1 = some r → QCalls Tryz.prog F_cmp_2 ([.p (.agg (TModuleStep.cs x0)), .p (.agg (TModuleStep.cs x1))] ++ C_cmp_2) (· = .p (eI r))) (r : Int) (h0 : slices_CompareFunc_api_ModuleStep_api_ModuleStep_api_ModuleStep_api_ModuleStep n s1_0 s2_1 cmp_2 = some r) : QCalls Tryz.prog 51 [.p (eL eTModuleStep s1_0), .p (eL eTModuleStep s2_1), .func (.func F_cmp_2) C_cmp_2] (· = .p (eI r)) := by
 unfold slices_CompareFunc_api_ModuleStep_api_ModuleStep_api_ModuleStep_api_ModuleStep at h0
 refine qbodyA good Tryz.func51 rfl rfl rfl fun w0 => mP (fun v : Int => .p (eI v)) ?_
 refine nx 8 rfl (oLl (f := eTModuleStep) rfl rfl ?_)
 refine nx 3 rfl ?_
 obtain ⟨o22, h1, hL0, hR0⟩ := jn_cut h0
 refine kEx 0 (fun v23 : Unit => o22 = .inl v23) (fun v23 => ⟨[(0, .p (eL eTModuleStep s1_0)), (1, .p (eL eTModuleStep s2_1))], []⟩) (fun v23 hv => ?_) ?_
 ·have h0 := hL0 _ hv
  refine nx 5 rfl (oLl (f := eTModuleStep) rfl rfl ?_)
  refine nx 1 rfl (oLl (f := eTModuleStep) rfl rfl ?_)
  refine nx 2 rfl (fD [38] h0 rfl (fun c20 h0 => ?_) fun c20 h0 => ?_)
  ·exact nx 6 rfl (mQ (oi h0) rfl (sr))
  exact nx 7 rfl (mQ (oi h0) rfl (sr))
 refine lG (fun (q24 : Int) => ⟨[(0, .p (eL eTModuleStep s1_0)), (1, .p (eL eTModuleStep s2_1)), (2, .func (.func F_cmp_2) C_cmp_2), (11, .p (eL eTModuleStep s1_0)), (12, .p (eI (s1_0.length : Int))), (13, .p (eI q24))], []⟩) (fun m (q24 : Int) => slices_CompareFunc_api_ModuleStep_api_ModuleStep_api_ModuleStep_api_ModuleStep_l1 s1_0 s2_1 cmp_2 m q24) (fun _ => rfl) 0 h1 (gE rfl rfl) ?_
 rintro m t10 h1
 replace h1 : slices_CompareFunc_api_ModuleStep_api_ModuleStep_api_ModuleStep_api_ModuleStep_l1 s1_0 s2_1 cmp_2 (m + 1) t10 = some o22 := h1
 rw [slices_CompareFunc_api_ModuleStep_api_ModuleStep_api_ModuleStep_api_ModuleStep_l1] at h1
 refine nx 5 rfl (fD [14] h1 rfl (fun c11 h1 => ?_) fun c11 h1 => ?_)
 ·refine nx 7 rfl (oE h1 TModuleStep.cells_eq rfl rfl (fun _ => rfl) fun hk12 h1 => ?_)
  refine nx 10 rfl (oLl (f := eTModuleStep) rfl rfl ?_)
  refine nx 2 rfl (fD [21] h1 rfl (fun c13 h1 => ?_) fun c13 h1 => ?_)
  ·exact nx 6 rfl (mQ (hR0 _ (oi h1).symm) rfl (sr))
  refine nx 6 rfl (oE h1 TModuleStep.cells_eq rfl rfl (fun _ => rfl) fun hk14 h1 => ?_)
  refine nx 9 rfl (bd h1 fun r15 e16 h1 => ?_)
  refine mG (gFn 2 C_cmp_2 rfl (by simp only [demL_cap K_cmp_2])) (mG (gFn 26 C_cmp_2 rfl (by simp only [demL_cap K_cmp_2])) ?_)
  refine mO rfl (ok_callF (q := [.p (.agg (TModuleStep.cs (lat s1_0 t10))), .p (.agg (TModuleStep.cs (lat s2_1 t10)))]) (H_cmp_2 (lat s1_0 t10) (lat s2_1 t10) _ e16) rfl rfl rfl rfl K_cmp_2 rfl rfl ⟨sr, sr, trivial⟩ E_cmp_2 rfl ?_)
  refine nx 7 rfl (fN [31] h1 rfl (fun c17 h1 => ?_) fun c17 h1 => ?_)
  ·refine nx 3 rfl (oA h1 rfl rfl fun hk18 h1 => ?_)
   exact nx 2 rfl (eX (t10 + 1) h1 (gE rfl rfl))
  refine nx 6 rfl (mG (gE (t := ⟨[(6, .p (eI r15))], []⟩) rfl rfl) ?_)
  exact nx 1 rfl (mQ (hR0 _ (oi h1).symm) rfl (sr))
 exact nx 2 rfl (eXi _ (oi h1).symm (gE rfl rfl))

def cmp_Or_int_l1 (vals_0 : List Int) : Nat → Int → Option (Unit ⊕ Int)
 | 0, _ => none
 | m + 1, t6 =>
 if t6 < (vals_0.length : Int) then
  ck ((0 : Int) ≤ t6 ∧ t6 < (vals_0.length : Int)) <|
  if lat vals_0 t6 = 0 then
   ck (inR (t6 + 1)) <|
   cmp_Or_int_l1 vals_0 m (t6 + 1)
  else
   some (.inr (lat vals_0 t6))
 else
  some (.inl ())

def cmp_Or_int (n : Nat) (vals_0 : List Int) : Option Int :=
 jn (cmp_Or_int_l1 vals_0 n 0) fun q12 =>
 some 0

set_option maxHeartbeats 4000000 in
theorem cmp_Or_int_ok (n : Nat) (vals_0 : List Int) (r : Int) (h0 : cmp_Or_int n vals_0 = some r) : PCalls Tryz.prog 53 [eL eI vals_0] (· = .p (eI r)) := by
 unfold cmp_Or_int at h0
 refine pbodyA good Tryz.func53 rfl rfl rfl fun w0 => mP (fun v : Int => .p (eI v)) ?_
 refine nx 12 rfl (oLl (f := eI) rfl rfl ?_)
 refine nx 3 rfl ?_
 obtain ⟨o13, h1, hL0, hR0⟩ := jn_cut h0
 refine kEx 0 (fun v14 : Unit => o13 = .inl v14) (fun v14 => ⟨[(3, .p (eI 0))], []⟩) (fun v14 hv => ?_) ?_
 ·have h0 := hL0 _ hv
  exact nx 7 rfl (mQ (oi h0) rfl (sr))
 refine lG (fun (q15 : Int) => ⟨[(3, .p (eI 0)), (6, .p (eL eI vals_0)), (7, .p (eI (vals_0.length : Int))), (8, .p (eI q15))], []⟩) (fun m (q15 : Int) => cmp_Or_int_l1 vals_0 m q15) (fun _ => rfl) 0 h1 (gE rfl rfl) ?_
 rintro m t6 h1
 replace h1 : cmp_Or_int_l1 vals_0 (m + 1) t6 = some o13 := h1
 rw [cmp_Or_int_l1] at h1
 refine nx 5 rfl (fD [9] h1 rfl (fun c7 h1 => ?_) fun c7 h1 => ?_)
 ·refine nx 6 rfl (oE h1 (fun _ => rfl) rfl rfl (fun _ => rfl) fun hk8 h1 => ?_)
  refine nx 9 rfl (fN [14] h1 rfl (fun c9 h1 => ?_) fun c9 h1 => ?_)
  ·refine nx 3 rfl (oA h1 rfl rfl fun hk10 h1 => ?_)
   exact nx 2 rfl (eX (t6 + 1) h1 (gE rfl rfl))
  exact nx 7 rfl (mQ (hR0 _ (oi h1).symm) rfl (sr))
 exact nx 2 rfl (eXi _ (oi h1).symm (gE rfl rfl))

def cmp_isNaN_int (x_0 : Int) : Option Bool :=
 some (!decide (x_0 = x_0))

set_option maxHeartbeats 4000000 in
theorem cmp_isNaN_int_ok (x_0 : Int) (r : Bool) (h0 : cmp_isNaN_int x_0 = some r) : PCalls Tryz.prog 82 [eI x_0] (· = .p (eB r)) := by
 unfold cmp_isNaN_int at h0
 refine pbodyA good Tryz.func82 rfl rfl rfl fun w0 => mP (fun v : Bool => .p (eB v)) ?_
 exact nx 12 rfl (mQ (oi h0) rfl (sr))

def cmp_Compare_int (x_0 : Int) (y_1 : Int) : Option Int :=
 (cmp_isNaN_int x_0).bind fun r1 =>
 (cmp_isNaN_int y_1).bind fun r3 =>
 if r1 = true then
  if r3 = true then
   some 0
  else
   some (-1)
 else
  if r3 = true then
   some 1
  else
   if x_0 < y_1 then
    some (-1)
   else
    if y_1 < x_0 then
     some 1
    else
     some 0

set_option maxHeartbeats 4000000 in
theorem cmp_Compare_int_ok (x_0 : Int) (y_1 : Int) (r : Int) (h0 : cmp_Compare_int x_0 y_1 = some r) : PCalls Tryz.prog 56 [eI x_0, eI y_1] (· = .p (eI r)) := by
 unfold cmp_Compare_int at h0
 refine pbodyA good Tryz.func56 rfl rfl rfl fun w0 => mP (fun v : Int => .p (eI v)) ?_
 refine nx 7 rfl (bd h0 fun r1 e2 h0 => ?_)
 refine oK (cmp_isNaN_int_ok x_0 _ e2) rfl ⟨sr, trivial⟩ Tryz.call82 rfl (nx 5 rfl ?_)
 refine bd h0 fun r3 e4 h0 => oK (cmp_isNaN_int_ok y_1 _ e4) rfl ⟨sr, trivial⟩ Tryz.call82 rfl (nx 7 rfl ?_)
 refine fB [5, 8, 11] h0 rfl (fun c5 h0 => ?_) fun c5 h0 => ?_
 ·refine nx 6 rfl (fB [6, 10, 12] h0 rfl (fun c6 h0 => ?_) fun c6 h0 => ?_)
  ·exact nx 6 rfl (mQ (oi h0) rfl (sr))
  exact nx 7 rfl (mQ (oi h0) rfl (sr))
 refine nx 7 rfl (fB [6, 10, 13] h0 rfl (fun c7 h0 => ?_) fun c7 h0 => ?_)
 ·exact nx 6 rfl (mQ (oi h0) rfl (sr))
 refine nx 9 rfl (fD [16] h0 rfl (fun c8 h0 => ?_) fun c8 h0 => ?_)
 ·exact nx 6 rfl (mQ (oi h0) rfl (sr))
 refine nx 9 rfl (fD [19] h0 rfl (fun c9 h0 => ?_) fun c9 h0 => ?_)
 ·exact nx 6 rfl (mQ (oi h0) rfl (sr))
 exact nx 7 rfl (mQ (oi h0) rfl (sr))

def cmp_isNaN_api_KeyKind (x_0 : Int) : Option Bool :=
 some (!decide (x_0 = x_0))

set_option maxHeartbeats 4000000 in
theorem cmp_isNaN_api_KeyKind_ok (x_0 : Int) (r : Bool) (h0 : cmp_isNaN_api_KeyKind x_0 = some r) : PCalls Tryz.prog 106 [eI x_0] (· = .p (eB r)) := by
 unfold cmp_isNaN_api_KeyKind at h0
 refine pbodyA good Tryz.func106 rfl rfl rfl fun w0 => mP (fun v : Bool => .p (eB v)) ?_
 exact nx 12 rfl (mQ (oi h0) rfl (sr))

def cmp_Compare_api_KeyKind (x_0 : Int) (y_1 : Int) : Option Int :=
 (cmp_isNaN_api_KeyKind x_0).bind fun r1 =>
 (cmp_isNaN_api_KeyKind y_1).bind fun r3 =>
 if r1 = true then
  if r3 = true then
   some 0
  else
   some (-1)
 else
  if r3 = true then
   some 1
  else
   if x_0 < y_1 then
    some (-1)
   else
    if y_1 < x_0 then
     some 1
    else
     some 0

set_option maxHeartbeats 4000000 in
theorem cmp_Compare_api_KeyKind_ok (x_0 : Int) (y_1 : Int) (r : Int) (h0 : cmp_Compare_api_KeyKind x_0 y_1 = some r) : PCalls Tryz.prog 81 [eI x_0, eI y_1] (· = .p (eI r)) := by
 unfold cmp_Compare_api_KeyKind at h0
 refine pbodyA good Tryz.func81 rfl rfl rfl fun w0 => mP (fun v : Int => .p (eI v)) ?_
 refine nx 7 rfl (bd h0 fun r1 e2 h0 => ?_)
 refine oK (cmp_isNaN_api_KeyKind_ok x_0 _ e2) rfl ⟨sr, trivial⟩ Tryz.call106 rfl (nx 5 rfl ?_)
 refine bd h0 fun r3 e4 h0 => oK (cmp_isNaN_api_KeyKind_ok y_1 _ e4) rfl ⟨sr, trivial⟩ Tryz.call106 rfl (nx 7 rfl ?_)
 refine fB [5, 8, 11] h0 rfl (fun c5 h0 => ?_) fun c5 h0 => ?_
 ·refine nx 6 rfl (fB [6, 10, 12] h0 rfl (fun c6 h0 => ?_) fun c6 h0 => ?_)
  ·exact nx 6 rfl (mQ (oi h0) rfl (sr))
  exact nx 7 rfl (mQ (oi h0) rfl (sr))
 refine nx 7 rfl (fB [6, 10, 13] h0 rfl (fun c7 h0 => ?_) fun c7 h0 => ?_)
 ·exact nx 6 rfl (mQ (oi h0) rfl (sr))
 refine nx 9 rfl (fD [16] h0 rfl (fun c8 h0 => ?_) fun c8 h0 => ?_)
 ·exact nx 6 rfl (mQ (oi h0) rfl (sr))
 refine nx 9 rfl (fD [19] h0 rfl (fun c9 h0 => ?_) fun c9 h0 => ?_)
 ·exact nx 6 rfl (mQ (oi h0) rfl (sr))
 exact nx 7 rfl (mQ (oi h0) rfl (sr))

def address_compareKeys (n : Nat) (a_0 : TKey) (b_1 : TKey) : Option Int :=
 (cmp_Compare_api_KeyKind a_0.fKind b_1.fKind).bind fun r1 =>
 (cmp_Compare_int a_0.fNum b_1.fNum).bind fun r3 =>
 (strings_Compare a_0.fStr b_1.fStr).bind fun r5 =>
 (cmp_Or_int n [r1, r3, r5]).bind fun r7 =>
 some r7

set_option maxHeartbeats 4000000 in
theorem address_compareKeys_ok (n : Nat) (a_0 : TKey) (b_1 : TKey) (r : Int) (h0 : address_compareKeys n a_0 b_1 = some r) : PCalls Tryz.prog 55 [.agg (TKey.cs a_0), .agg (TKey.cs b_1)] (· = .p (eI r)) := by
 unfold address_compareKeys at h0
 refine pbodyA good Tryz.func55 rfl rfl rfl fun w0 => mP (fun v : Int => .p (eI v)) ?_
 refine nx 7 rfl (bd h0 fun r1 e2 h0 => ?_)
 refine bd h0 fun r3 e4 h0 => bd h0 fun r5 e6 h0 => bd h0 fun r7 e8 h0 => mD [(2, .ptr 2 0), (3, .ptr 3 0)] rfl ⟨rfl, rfl, trivial⟩ rfl (dR 4 rfl ?_)
 refine dq (.p (eI r1)) [6,8] rfl (fun _ e _ q => one_op rfl (ok_callP (cmp_Compare_api_KeyKind_ok a_0.fKind b_1.fKind _ e2) rfl rfl rfl (args_cons (e _ _ rfl) (args_cons (e _ _ rfl) args_nil)) ⟨sr, sr, trivial⟩ Tryz.call81 rfl q)) rfl (dR 4 rfl ?_)
 refine dq (.p (eI r3)) [11,13] rfl (fun _ e _ q => one_op rfl (ok_callP (cmp_Compare_int_ok a_0.fNum b_1.fNum _ e4) rfl rfl rfl (args_cons (e _ _ rfl) (args_cons (e _ _ rfl) args_nil)) ⟨sr, sr, trivial⟩ Tryz.call56 rfl q)) rfl (dR 4 rfl ?_)
 refine dq (.p (eI r5)) [16,18] rfl (fun _ e _ q => one_op rfl (ok_callP (strings_Compare_ok a_0.fStr b_1.fStr _ e6) rfl rfl rfl (args_cons (e _ _ rfl) (args_cons (e _ _ rfl) args_nil)) ⟨sr, sr, trivial⟩ Tryz.call54 rfl q)) rfl (dq (.p (eL eI [r1, r3, r5])) [9,14,19] rfl (fun _ e _ q => one_op rfl (op_bslice eI [r1, r3, r5] rfl rfl rfl rfl rfl rfl (elems_cons (e _ _ rfl) rfl (elems_cons (e _ _ rfl) rfl (elems_cons (e _ _ rfl) rfl elems_nil))) rfl rfl rfl rfl rfl rfl rfl q)) rfl ?_)
 refine dq (.p (eI r7)) [20] rfl (fun _ e _ q => one_op rfl (ok_callP (cmp_Or_int_ok _ [r1, r3, r5] _ e8) rfl rfl rfl (args_cons (e _ _ rfl) args_nil) ⟨sr, trivial⟩ Tryz.call53 rfl q)) rfl (dR 1 rfl ?_)
 refine dE rfl (nx 2 rfl ?_)
 exact mQ (oi h0) rfl (sr)

def address_Compare_1 (n : Nat) (s_0 : TModuleStep) (t_1 : TModuleStep) : Option Int :=
 (strings_Compare s_0.fName t_1.fName).bind fun r1 =>
 (address_compareKeys n s_0.fKey t_1.fKey).bind fun r3 =>
 (cmp_Or_int n [r1, r3]).bind fun r5 =>
 some r5

set_option maxHeartbeats 4000000 in
theorem address_Compare_1_ok (n : Nat) (s_0 : TModuleStep) (t_1 : TModuleStep) (r : Int) (h0 : address_Compare_1 n s_0 t_1 = some r) : PCalls Tryz.prog 52 [.agg (TModuleStep.cs s_0), .agg (TModuleStep.cs t_1)] (· = .p (eI r)) := by
 unfold address_Compare_1 at h0
 refine pbodyA good Tryz.func52 rfl rfl rfl fun w0 => mP (fun v : Int => .p (eI v)) ?_
 refine nx 7 rfl (bd h0 fun r1 e2 h0 => ?_)
 refine bd h0 fun r3 e4 h0 => bd h0 fun r5 e6 h0 => mD [(2, .ptr 2 0), (3, .ptr 3 0)] rfl ⟨rfl, rfl, trivial⟩ rfl (dR 4 rfl ?_)
 refine dq (.p (eI r1)) [6,8] rfl (fun _ e _ q => one_op rfl (ok_callP (strings_Compare_ok s_0.fName t_1.fName _ e2) rfl rfl rfl (args_cons (e _ _ rfl) (args_cons (e _ _ rfl) args_nil)) ⟨sr, sr, trivial⟩ Tryz.call54 rfl q)) rfl (dR 4 rfl ?_)
 refine dq (.p (eI r3)) [11,13] rfl (fun _ e _ q => one_op rfl (ok_callP (address_compareKeys_ok _ s_0.fKey t_1.fKey _ e4) rfl rfl rfl (args_cons (e _ _ rfl) (args_cons (e _ _ rfl) args_nil)) ⟨sr, sr, trivial⟩ Tryz.call55 rfl q)) rfl (dq (.p (eL eI [r1, r3])) [9,14] rfl (fun _ e _ q => one_op rfl (op_bslice eI [r1, r3] rfl rfl rfl rfl rfl rfl (elems_cons (e _ _ rfl) rfl (elems_cons (e _ _ rfl) rfl elems_nil)) rfl rfl rfl rfl rfl rfl rfl q)) rfl ?_)
 refine dq (.p (eI r5)) [15] rfl (fun _ e _ q => one_op rfl (ok_callP (cmp_Or_int_ok _ [r1, r3] _ e6) rfl rfl rfl (args_cons (e _ _ rfl) args_nil) ⟨sr, trivial⟩ Tryz.call53 rfl q)) rfl (dR 1 rfl ?_)
 refine dE rfl (nx 2 rfl ?_)
 exact mQ (oi h0) rfl (sr)

def address_flag (b_0 : Bool) : Option Int :=
 if b_0 = true then
  some 1
 else
  some 0

set_option maxHeartbeats 4000000 in
theorem address_flag_ok (b_0 : Bool) (r : Int) (h0 : address_flag b_0 = some r) : PCalls Tryz.prog 57 [eB b_0] (· = .p (eI r)) := by
 unfold address_flag at h0
 refine pbodyA good Tryz.func57 rfl rfl rfl fun w0 => mP (fun v : Int => .p (eI v)) ?_
 refine nx 9 rfl (fB [0, 3] h0 rfl (fun c1 h0 => ?_) fun c1 h0 => ?_)
 ·exact nx 6 rfl (mQ (oi h0) rfl (sr))
 exact nx 7 rfl (mQ (oi h0) rfl (sr))

def address_Compare (n : Nat) (a_0 : TAddress) (b_1 : TAddress) : Option Int :=
 (slices_CompareFunc_api_ModuleStep_api_ModuleStep_api_ModuleStep_api_ModuleStep n a_0.fModule b_1.fModule (fun x0 x1 => address_Compare_1 n x0 x1)).bind fun r2 =>
 (address_flag a_0.fData).bind fun r4 =>
 (address_flag b_1.fData).bind fun r6 =>
 (cmp_Compare_int r4 r6).bind fun r8 =>
 (strings_Compare a_0.fType b_1.fType).bind fun r10 =>
 (strings_Compare a_0.fName b_1.fName).bind fun r12 =>
 (address_compareKeys n a_0.fKey b_1.fKey).bind fun r14 =>
 (cmp_Or_int n [r2, r8, r10, r12, r14]).bind fun r16 =>
 some r16

set_option maxHeartbeats 4000000 in
theorem address_Compare_ok (n : Nat) (a_0 : TAddress) (b_1 : TAddress) (r : Int) (h0 : address_Compare n a_0 b_1 = some r) : PCalls Tryz.prog 22 [.agg (TAddress.cs a_0), .agg (TAddress.cs b_1)] (· = .p (eI r)) := by
 unfold address_Compare at h0
 refine pbodyA good Tryz.func22 rfl rfl rfl fun w0 => mP (fun v : Int => .p (eI v)) ?_
 refine nx 12 rfl (bd h0 fun r2 e3 h0 => ?_)
 refine mO rfl (ok_callQ (slices_CompareFunc_api_ModuleStep_api_ModuleStep_api_ModuleStep_api_ModuleStep_ok _ a_0.fModule b_1.fModule (fun x0 x1 => address_Compare_1 n x0 x1) 52 [] rfl Tryz.call52 (fun x0 x1 r h => (address_Compare_1_ok _ x0 x1 r h).q) _ e3) rfl rfl rfl rfl (mapAgo_cons rfl (mapAgo_cons rfl (mapAgo_cons (mapA_func rfl) mapAgo_nil))) ⟨sr, sr, sr, trivial⟩ Tryz.call51 rfl ?_)
 refine nx 3 rfl (bd h0 fun r4 e5 h0 => ?_)
 refine bd h0 fun r6 e7 h0 => bd h0 fun r8 e9 h0 => bd h0 fun r10 e11 h0 => bd h0 fun r12 e13 h0 => bd h0 fun r14 e15 h0 => bd h0 fun r16 e17 h0 => mD [(2, .ptr 2 0), (3, .ptr 3 0), (5, .p (eI r2))] rfl ⟨rfl, rfl, rfl, trivial⟩ rfl (dR 3 rfl ?_)
 refine dq (.p (eI r4)) [13] rfl (fun _ e _ q => one_op rfl (ok_callP (address_flag_ok a_0.fData _ e5) rfl rfl rfl (args_cons (e _ _ rfl) args_nil) ⟨sr, trivial⟩ Tryz.call57 rfl q)) rfl (dR 2 rfl ?_)
 refine dq (.p (eI r6)) [16] rfl (fun _ e _ q => one_op rfl (ok_callP (address_flag_ok b_1.fData _ e7) rfl rfl rfl (args_cons (e _ _ rfl) args_nil) ⟨sr, trivial⟩ Tryz.call57 rfl q)) rfl (dq (.p (eI r8)) [14,17] rfl (fun _ e _ q => one_op rfl (ok_callP (cmp_Compare_int_ok r4 r6 _ e9) rfl rfl rfl (args_cons (e _ _ rfl) (args_cons (e _ _ rfl) args_nil)) ⟨sr, sr, trivial⟩ Tryz.call56 rfl q)) rfl ?_)
 refine dR 4 rfl (dq (.p (eI r10)) [20,22] rfl (fun _ e _ q => one_op rfl (ok_callP (strings_Compare_ok a_0.fType b_1.fType _ e11) rfl rfl rfl (args_cons (e _ _ rfl) (args_cons (e _ _ rfl) args_nil)) ⟨sr, sr, trivial⟩ Tryz.call54 rfl q)) rfl ?_)
 refine dR 4 rfl (dq (.p (eI r12)) [25,27] rfl (fun _ e _ q => one_op rfl (ok_callP (strings_Compare_ok a_0.fName b_1.fName _ e13) rfl rfl rfl (args_cons (e _ _ rfl) (args_cons (e _ _ rfl) args_nil)) ⟨sr, sr, trivial⟩ Tryz.call54 rfl q)) rfl ?_)
 refine dR 4 rfl (dq (.p (eI r14)) [30,32] rfl (fun _ e _ q => one_op rfl (ok_callP (address_compareKeys_ok _ a_0.fKey b_1.fKey _ e15) rfl rfl rfl (args_cons (e _ _ rfl) (args_cons (e _ _ rfl) args_nil)) ⟨sr, sr, trivial⟩ Tryz.call55 rfl q)) rfl ?_)
 refine dq (.p (eL eI [r2, r8, r10, r12, r14])) [11,18,23,28,33] rfl (fun _ e _ q => one_op rfl (op_bslice eI [r2, r8, r10, r12, r14] rfl rfl rfl rfl rfl rfl (elems_cons (e _ _ rfl) rfl (elems_cons (e _ _ rfl) rfl (elems_cons (e _ _ rfl) rfl (elems_cons (e _ _ rfl) rfl (elems_cons (e _ _ rfl) rfl elems_nil))))) rfl rfl rfl rfl rfl rfl rfl q)) rfl (dq (.p (eI r16)) [34] rfl (fun _ e _ q => one_op rfl (ok_callP (cmp_Or_int_ok _ [r2, r8, r10, r12, r14] _ e17) rfl rfl rfl (args_cons (e _ _ rfl) args_nil) ⟨sr, trivial⟩ Tryz.call53 rfl q)) rfl ?_)
 refine dR 1 rfl (dE rfl ?_)
 refine nx 1 rfl (mG (gE (t := ⟨[(4, .p (eI r16))], []⟩) rfl rfl) ?_)
 exact nx 1 rfl (mQ (oi h0) rfl (sr))

def ref06_words (a_0 : Bytes) (b_1 : Bytes) : Option Int :=
 if (Op.bytesLess a_0 b_1) = true then
  some (-1)
 else
  if (!(Op.bytesLess a_0 b_1 || decide (a_0 = b_1))) = true then
   some 1
  else
   some 0

set_option maxHeartbeats 4000000 in
theorem ref06_words_ok (a_0 : Bytes) (b_1 : Bytes) (r : Int) (h0 : ref06_words a_0 b_1 = some r) : PCalls Tryz.prog 58 [eS a_0, eS b_1] (· = .p (eI r)) := by
 unfold ref06_words at h0
 refine pbodyA good Tryz.func58 rfl rfl rfl fun w0 => mP (fun v : Int => .p (eI v)) ?_
 refine nx 9 rfl (oS rfl rfl ?_)
 refine nx 1 rfl (fB [7] h0 rfl (fun c1 h0 => ?_) fun c1 h0 => ?_)
 ·exact nx 6 rfl (mQ (oi h0) rfl (sr))
 refine nx 7 rfl (oS rfl rfl ?_)
 refine nx 1 rfl (fB [10] h0 rfl (fun c2 h0 => ?_) fun c2 h0 => ?_)
 ·exact nx 6 rfl (mQ (oi h0) rfl (sr))
 exact nx 7 rfl (mQ (oi h0) rfl (sr))

def ref06_order (a_0 : Int) (b_1 : Int) : Option Int :=
 if a_0 < b_1 then
  some (-1)
 else
  if b_1 < a_0 then
   some 1
  else
   some 0

set_option maxHeartbeats 4000000 in
theorem ref06_order_ok (a_0 : Int) (b_1 : Int) (r : Int) (h0 : ref06_order a_0 b_1 = some r) : PCalls Tryz.prog 60 [eI a_0, eI b_1] (· = .p (eI r)) := by
 unfold ref06_order at h0
 refine pbodyA good Tryz.func60 rfl rfl rfl fun w0 => mP (fun v : Int => .p (eI v)) ?_
 refine nx 11 rfl (fD [7] h0 rfl (fun c1 h0 => ?_) fun c1 h0 => ?_)
 ·exact nx 6 rfl (mQ (oi h0) rfl (sr))
 refine nx 9 rfl (fD [10] h0 rfl (fun c2 h0 => ?_) fun c2 h0 => ?_)
 ·exact nx 6 rfl (mQ (oi h0) rfl (sr))
 exact nx 7 rfl (mQ (oi h0) rfl (sr))

def ref06_CompareKeys (a_0 : TKey) (b_1 : TKey) : Option Int :=
 if a_0.fKind = b_1.fKind then
  if a_0.fNum = b_1.fNum then
   (ref06_words a_0.fStr b_1.fStr).bind fun r7 =>
   some r7
  else
   (ref06_order a_0.fNum b_1.fNum).bind fun r5 =>
   some r5
 else
  (ref06_order a_0.fKind b_1.fKind).bind fun r2 =>
  some r2

set_option maxHeartbeats 4000000 in
theorem ref06_CompareKeys_ok (a_0 : TKey) (b_1 : TKey) (r : Int) (h0 : ref06_CompareKeys a_0 b_1 = some r) : PCalls Tryz.prog 59 [.agg (TKey.cs a_0), .agg (TKey.cs b_1)] (· = .p (eI r)) := by
 unfold ref06_CompareKeys at h0
 refine pbodyA good Tryz.func59 rfl rfl rfl fun w0 => mP (fun v : Int => .p (eI v)) ?_
 refine nx 15 rfl (fN [9] h0 rfl (fun c1 h0 => ?_) fun c1 h0 => ?_)
 ·refine nx 11 rfl (fN [19] h0 rfl (fun c4 h0 => ?_) fun c4 h0 => ?_)
  ·refine nx 8 rfl (bd h0 fun r7 e8 h0 => ?_)
   refine oK (ref06_words_ok a_0.fStr b_1.fStr _ e8) rfl ⟨sr, sr, trivial⟩ Tryz.call58 rfl (nx 3 rfl ?_)
   exact mQ (oi h0) rfl (sr)
  refine nx 7 rfl (bd h0 fun r5 e6 h0 => ?_)
  refine oK (ref06_order_ok a_0.fNum b_1.fNum _ e6) rfl ⟨sr, sr, trivial⟩ Tryz.call60 rfl (nx 3 rfl ?_)
  exact mQ (oi h0) rfl (sr)
 refine nx 7 rfl (bd h0 fun r2 e3 h0 => ?_)
 refine oK (ref06_order_ok a_0.fKind b_1.fKind _ e3) rfl ⟨sr, sr, trivial⟩ Tryz.call60 rfl (nx 3 rfl ?_)
 exact mQ (oi h0) rfl (sr)

def ref06_Compare_l1 (a_0 : TAddress) (b_1 : TAddress) : Nat → Int → Option (Unit ⊕ Int)
 | 0, _ => none
 | m + 1, i14 =>
 (
   if i14 < (a_0.fModule.length : Int) then
    some (decide (i14 < (b_1.fModule.length : Int)))
   else
    some false
  : Option Bool).bind fun t16 =>
 if t16 = true then
  ck ((0 : Int) ≤ i14 ∧ i14 < (a_0.fModule.length : Int)) <|
  ck ((0 : Int) ≤ i14 ∧ i14 < (b_1.fModule.length : Int)) <|
  if (lat a_0.fModule i14).fName = (lat b_1.fModule i14).fName then
   if ((lat a_0.fModule i14).fKey).fKind = ((lat b_1.fModule i14).fKey).fKind ∧ ((lat a_0.fModule i14).fKey).fNum = ((lat b_1.fModule i14).fKey).fNum ∧ ((lat a_0.fModule i14).fKey).fStr = ((lat b_1.fModule i14).fKey).fStr then
    ck (inR (i14 + 1)) <|
    ref06_Compare_l1 a_0 b_1 m (i14 + 1)
   else
    (ref06_CompareKeys ((lat a_0.fModule i14).fKey) ((lat b_1.fModule i14).fKey)).bind fun r24 =>
    some (.inr r24)
  else
   (ref06_words ((lat a_0.fModule i14).fName) ((lat b_1.fModule i14).fName)).bind fun r21 =>
   some (.inr r21)
 else
  some (.inl ())

def ref06_Compare (n : Nat) (a_0 : TAddress) (b_1 : TAddress) : Option Int :=
 jn (ref06_Compare_l1 a_0 b_1 n 0) fun q41 =>
 if (a_0.fModule.length : Int) = (b_1.fModule.length : Int) then
  if (!(a_0.fData == b_1.fData)) = true then
   if b_1.fData = true then
    some (-1)
   else
    some 1
  else
   if a_0.fType = b_1.fType then
    if a_0.fName = b_1.fName then
     (ref06_CompareKeys a_0.fKey b_1.fKey).bind fun r39 =>
     some r39
    else
     (ref06_words a_0.fName b_1.fName).bind fun r37 =>
     some r37
   else
    (ref06_words a_0.fType b_1.fType).bind fun r34 =>
    some r34
 else
  (ref06_order (a_0.fModule.length : Int) (b_1.fModule.length : Int)).bind fun r29 =>
  some r29

set_option maxHeartbeats 4000000 in
theorem ref06_Compare_ok (n : Nat) (a_0 : TAddress) (b_1 : TAddress) (r : Int) (h0 : ref06_Compare n a_0 b_1 = some r) : PCalls Tryz.prog 23 [.agg (TAddress.cs a_0), .agg (TAddress.cs b_1)] (· = .p (eI r)) := by
 unfold ref06_Compare at h0
 refine pbodyA good Tryz.func23 rfl rfl rfl fun w0 => mP (fun v : Int => .p (eI v)) ?_
 refine nx 12 rfl ?_
 obtain ⟨o43, h1, hL0, hR0⟩ := jn_cut h0
 refine kEx 0 (fun v44 : Unit => o43 = .inl v44) (fun v44 => ⟨[(2, .ptr 2 0), (3, .ptr 3 0)], [(2, (TAddress.cs a_0).map .p), (3, (TAddress.cs b_1).map .p)]⟩) (fun v44 hv => ?_) ?_
 ·have h0 := hL0 _ hv
  refine nx 6 rfl (oLl (f := eTModuleStep) rfl rfl ?_)
  refine nx 2 rfl (oLl (f := eTModuleStep) rfl rfl ?_)
  refine nx 2 rfl (fN [58] h0 rfl (fun c28 h0 => ?_) fun c28 h0 => ?_)
  ·refine nx 11 rfl (fB [70] h0 rfl (fun c31 h0 => ?_) fun c31 h0 => ?_)
   ·refine nx 7 rfl (fB [69, 72] h0 rfl (fun c32 h0 => ?_) fun c32 h0 => ?_)
    ·exact nx 6 rfl (mQ (oi h0) rfl (sr))
    exact nx 7 rfl (mQ (oi h0) rfl (sr))
   refine nx 9 rfl (oS rfl rfl ?_)
   refine nx 1 rfl (fN [77] h0 rfl (fun c33 h0 => ?_) fun c33 h0 => ?_)
   ·refine nx 9 rfl (oS rfl rfl ?_)
    refine nx 1 rfl (fN [87] h0 rfl (fun c36 h0 => ?_) fun c36 h0 => ?_)
    ·refine nx 8 rfl (bd h0 fun r39 e40 h0 => ?_)
     refine oK (ref06_CompareKeys_ok a_0.fKey b_1.fKey _ e40) rfl ⟨sr, sr, trivial⟩ Tryz.call59 rfl (nx 2 rfl ?_)
     refine mG (gE (t := ⟨[(4, .p (eI r39))], []⟩) rfl rfl) (nx 1 rfl ?_)
     exact mQ (oi h0) rfl (sr)
    refine nx 7 rfl (bd h0 fun r37 e38 h0 => ?_)
    refine oK (ref06_words_ok a_0.fName b_1.fName _ e38) rfl ⟨sr, sr, trivial⟩ Tryz.call58 rfl (nx 2 rfl ?_)
    refine mG (gE (t := ⟨[(4, .p (eI r37))], []⟩) rfl rfl) (nx 1 rfl ?_)
    exact mQ (oi h0) rfl (sr)
   refine nx 7 rfl (bd h0 fun r34 e35 h0 => ?_)
   refine oK (ref06_words_ok a_0.fType b_1.fType _ e35) rfl ⟨sr, sr, trivial⟩ Tryz.call58 rfl (nx 3 rfl ?_)
   exact mQ (oi h0) rfl (sr)
  refine nx 5 rfl (oLl (f := eTModuleStep) rfl rfl ?_)
  refine nx 2 rfl (oLl (f := eTModuleStep) rfl rfl ?_)
  refine bd h0 fun r29 e30 h0 => oK (ref06_order_ok (a_0.fModule.length : Int) (b_1.fModule.length : Int) _ e30) rfl ⟨sr, sr, trivial⟩ Tryz.call60 rfl (nx 3 rfl ?_)
  exact mQ (oi h0) rfl (sr)
 refine lG (fun (q45 : Int) => ⟨[(2, .ptr 2 0), (3, .ptr 3 0), (5, .p (eI q45))], [(2, (TAddress.cs a_0).map .p), (3, (TAddress.cs b_1).map .p)]⟩) (fun m (q45 : Int) => ref06_Compare_l1 a_0 b_1 m q45) (fun _ => rfl) 0 h1 (gE rfl rfl) ?_
 rintro m i14 h1
 replace h1 : ref06_Compare_l1 a_0 b_1 (m + 1) i14 = some o43 := h1
 rw [ref06_Compare_l1] at h1
 refine nx 2 rfl (bd h1 fun o46 h2 h1 => ?_)
 refine kN o46 (fun v47 => ⟨[(2, .ptr 2 0), (3, .ptr 3 0), (5, .p (eI i14)), (19, .p (eB v47))], [(2, (TAddress.cs a_0).map .p), (3, (TAddress.cs b_1).map .p)]⟩) ?_ ?_
 ·refine nx 1 rfl (fB [19] h1 rfl (fun c17 h1 => ?_) fun c17 h1 => ?_)
  ·refine nx 5 rfl (cc' h1 fun hk18 h1 => ?_)
   refine cc' h1 fun hk19 h1 => mG (gE (t := ⟨[(2, .ptr 2 0), (3, .ptr 3 0), (5, .p (eI i14))], [(2, (TAddress.cs a_0).map .p), (3, (TAddress.cs b_1).map .p)]⟩) rfl rfl) (mSS ⟨4, [10, 11, 12, 13], (by5 (some fun i => Nat.beq i 6) (some fun i => Nat.beq i 7) none none none), (fun _ => [(2, .ptr 2 0), (3, .ptr 3 0), (5, .p (eI i14))]), (by5 ([(2, [.p (eL eTModuleStep a_0.fModule), .p (eB a_0.fData), .p (eS a_0.fType), .p (eS a_0.fName), .p (eI a_0.fKey.fKind), .p (eI a_0.fKey.fNum), .p (eS a_0.fKey.fStr)]), (3, [.p (eL eTModuleStep b_1.fModule), .p (eB b_1.fData), .p (eS b_1.fType), .p (eS b_1.fName), .p (eI b_1.fKey.fKind), .p (eI b_1.fKey.fNum), .p (eS b_1.fKey.fStr)])]) ([(6, [.p (eS ([] : Bytes)), .p (eI 0), .p (eI 0), .p (eS ([] : Bytes))]), (2, [.p (eL eTModuleStep a_0.fModule), .p (eB a_0.fData), .p (eS a_0.fType), .p (eS a_0.fName), .p (eI a_0.fKey.fKind), .p (eI a_0.fKey.fNum), .p (eS a_0.fKey.fStr)]), (3, [.p (eL eTModuleStep b_1.fModule), .p (eB b_1.fData), .p (eS b_1.fType), .p (eS b_1.fName), .p (eI b_1.fKey.fKind), .p (eI b_1.fKey.fNum), .p (eS b_1.fKey.fStr)])]) ([(7, [.p (eS ([] : Bytes)), .p (eI 0), .p (eI 0), .p (eS ([] : Bytes))]), (6, [.p (eS ([] : Bytes)), .p (eI 0), .p (eI 0), .p (eS ([] : Bytes))]), (2, [.p (eL eTModuleStep a_0.fModule), .p (eB a_0.fData), .p (eS a_0.fType), .p (eS a_0.fName), .p (eI a_0.fKey.fKind), .p (eI a_0.fKey.fNum), .p (eS a_0.fKey.fStr)]), (3, [.p (eL eTModuleStep b_1.fModule), .p (eB b_1.fData), .p (eS b_1.fType), .p (eS b_1.fName), .p (eI b_1.fKey.fKind), .p (eI b_1.fKey.fNum), .p (eS b_1.fKey.fStr)])]) ([(6, [.p (eS ((lat a_0.fModule i14).fName)), .p (eI (((lat a_0.fModule i14).fKey).fKind)), .p (eI (((lat a_0.fModule i14).fKey).fNum)), .p (eS (((lat a_0.fModule i14).fKey).fStr))]), (7, [.p (eS ([] : Bytes)), .p (eI 0), .p (eI 0), .p (eS ([] : Bytes))]), (6, [.p (eS ([] : Bytes)), .p (eI 0), .p (eI 0), .p (eS ([] : Bytes))]), (2, [.p (eL eTModuleStep a_0.fModule), .p (eB a_0.fData), .p (eS a_0.fType), .p (eS a_0.fName), .p (eI a_0.fKey.fKind), .p (eI a_0.fKey.fNum), .p (eS a_0.fKey.fStr)]), (3, [.p (eL eTModuleStep b_1.fModule), .p (eB b_1.fData), .p (eS b_1.fType), .p (eS b_1.fName), .p (eI b_1.fKey.fKind), .p (eI b_1.fKey.fNum), .p (eS b_1.fKey.fStr)])]) ([(7, [.p (eS ((lat b_1.fModule i14).fName)), .p (eI (((lat b_1.fModule i14).fKey).fKind)), .p (eI (((lat b_1.fModule i14).fKey).fNum)), .p (eS (((lat b_1.fModule i14).fKey).fStr))]), (6, [.p (eS ((lat a_0.fModule i14).fName)), .p (eI (((lat a_0.fModule i14).fKey).fKind)), .p (eI (((lat a_0.fModule i14).fKey).fNum)), .p (eS (((lat a_0.fModule i14).fKey).fStr))]), (7, [.p (eS ([] : Bytes)), .p (eI 0), .p (eI 0), .p (eS ([] : Bytes))]), (6, [.p (eS ([] : Bytes)), .p (eI 0), .p (eI 0), .p (eS ([] : Bytes))]), (2, [.p (eL eTModuleStep a_0.fModule), .p (eB a_0.fData), .p (eS a_0.fType), .p (eS a_0.fName), .p (eI a_0.fKey.fKind), .p (eI a_0.fKey.fNum), .p (eS a_0.fKey.fStr)]), (3, [.p (eL eTModuleStep b_1.fModule), .p (eB b_1.fData), .p (eS b_1.fType), .p (eS b_1.fName), .p (eI b_1.fKey.fKind), .p (eI b_1.fKey.fNum), .p (eS b_1.fKey.fStr)])]))⟩ ⟨4, [11, 10, 12, 13], (by5 (some fun i => Nat.beq i 7) (some fun i => Nat.beq i 6) none none none), (fun _ => [(2, .ptr 2 0), (3, .ptr 3 0), (5, .p (eI i14))]), (by5 ([(2, [.p (eL eTModuleStep a_0.fModule), .p (eB a_0.fData), .p (eS a_0.fType), .p (eS a_0.fName), .p (eI a_0.fKey.fKind), .p (eI a_0.fKey.fNum), .p (eS a_0.fKey.fStr)]), (3, [.p (eL eTModuleStep b_1.fModule), .p (eB b_1.fData), .p (eS b_1.fType), .p (eS b_1.fName), .p (eI b_1.fKey.fKind), .p (eI b_1.fKey.fNum), .p (eS b_1.fKey.fStr)])]) ([(7, [.p (eS ([] : Bytes)), .p (eI 0), .p (eI 0), .p (eS ([] : Bytes))]), (2, [.p (eL eTModuleStep a_0.fModule), .p (eB a_0.fData), .p (eS a_0.fType), .p (eS a_0.fName), .p (eI a_0.fKey.fKind), .p (eI a_0.fKey.fNum), .p (eS a_0.fKey.fStr)]), (3, [.p (eL eTModuleStep b_1.fModule), .p (eB b_1.fData), .p (eS b_1.fType), .p (eS b_1.fName), .p (eI b_1.fKey.fKind), .p (eI b_1.fKey.fNum), .p (eS b_1.fKey.fStr)])]) ([(6, [.p (eS ([] : Bytes)), .p (eI 0), .p (eI 0), .p (eS ([] : Bytes))]), (7, [.p (eS ([] : Bytes)), .p (eI 0), .p (eI 0), .p (eS ([] : Bytes))]), (2, [.p (eL eTModuleStep a_0.fModule), .p (eB a_0.fData), .p (eS a_0.fType), .p (eS a_0.fName), .p (eI a_0.fKey.fKind), .p (eI a_0.fKey.fNum), .p (eS a_0.fKey.fStr)]), (3, [.p (eL eTModuleStep b_1.fModule), .p (eB b_1.fData), .p (eS b_1.fType), .p (eS b_1.fName), .p (eI b_1.fKey.fKind), .p (eI b_1.fKey.fNum), .p (eS b_1.fKey.fStr)])]) ([(6, [.p (eS ((lat a_0.fModule i14).fName)), .p (eI (((lat a_0.fModule i14).fKey).fKind)), .p (eI (((lat a_0.fModule i14).fKey).fNum)), .p (eS (((lat a_0.fModule i14).fKey).fStr))]), (6, [.p (eS ([] : Bytes)), .p (eI 0), .p (eI 0), .p (eS ([] : Bytes))]), (7, [.p (eS ([] : Bytes)), .p (eI 0), .p (eI 0), .p (eS ([] : Bytes))]), (2, [.p (eL eTModuleStep a_0.fModule), .p (eB a_0.fData), .p (eS a_0.fType), .p (eS a_0.fName), .p (eI a_0.fKey.fKind), .p (eI a_0.fKey.fNum), .p (eS a_0.fKey.fStr)]), (3, [.p (eL eTModuleStep b_1.fModule), .p (eB b_1.fData), .p (eS b_1.fType), .p (eS b_1.fName), .p (eI b_1.fKey.fKind), .p (eI b_1.fKey.fNum), .p (eS b_1.fKey.fStr)])]) ([(7, [.p (eS ((lat b_1.fModule i14).fName)), .p (eI (((lat b_1.fModule i14).fKey).fKind)), .p (eI (((lat b_1.fModule i14).fKey).fNum)), .p (eS (((lat b_1.fModule i14).fKey).fStr))]), (6, [.p (eS ((lat a_0.fModule i14).fName)), .p (eI (((lat a_0.fModule i14).fKey).fKind)), .p (eI (((lat a_0.fModule i14).fKey).fNum)), .p (eS (((lat a_0.fModule i14).fKey).fStr))]), (6, [.p (eS ([] : Bytes)), .p (eI 0), .p (eI 0), .p (eS ([] : Bytes))]), (7, [.p (eS ([] : Bytes)), .p (eI 0), .p (eI 0), .p (eS ([] : Bytes))]), (2, [.p (eL eTModuleStep a_0.fModule), .p (eB a_0.fData), .p (eS a_0.fType), .p (eS a_0.fName), .p (eI a_0.fKey.fKind), .p (eI a_0.fKey.fNum), .p (eS a_0.fKey.fStr)]), (3, [.p (eL eTModuleStep b_1.fModule), .p (eB b_1.fData), .p (eS b_1.fType), .p (eS b_1.fName), .p (eI b_1.fKey.fKind), .p (eI b_1.fKey.fNum), .p (eS b_1.fKey.fStr)])]))⟩ rfl rfl rfl rfl rfl rfl rfl ⟨rfl, rfl, rfl, trivial⟩ rfl (lt4 ⟨rfl, rfl, rfl, trivial⟩ ⟨rfl, rfl, rfl, trivial⟩ ⟨rfl, rfl, rfl, trivial⟩ ⟨rfl, rfl, rfl, trivial⟩) (lt4 ⟨rfl, rfl, rfl, trivial⟩ ⟨rfl, rfl, rfl, trivial⟩ ⟨rfl, rfl, rfl, trivial⟩ ⟨rfl, rfl, rfl, trivial⟩) rfl rfl rfl rfl rfl ?_)
   refine ds_pure (fun _ => .ptr 2 0) rfl rfl rfl (all5 rfl rfl rfl rfl (fun _ => rfl)) (lt4 rfl rfl rfl rfl) (stg_no rfl (stg_no rfl (stg_yes [(2, _)] ⟨.inl rfl, trivial⟩ (fun sl hsl K hK => one_op rfl (ok_fieldAddrP rfl rfl rfl rfl rfl rfl rfl rfl (hsl _ _ rfl) hK)) (stg_yes [(2, _)] ⟨.inl rfl, trivial⟩ (fun sl hsl K hK => one_op rfl (ok_fieldAddrP rfl rfl rfl rfl rfl rfl rfl rfl (hsl _ _ rfl) hK)) (stg_yes [(2, _)] ⟨.inl rfl, trivial⟩ (fun sl hsl K hK => one_op rfl (ok_fieldAddrP rfl rfl rfl rfl rfl rfl rfl rfl (hsl _ _ rfl) hK)) stg_nil))))) (ds_pure (fun _ => .p (eL eTModuleStep a_0.fModule)) rfl rfl rfl (all5 rfl rfl rfl rfl (fun _ => rfl)) (lt4 rfl rfl rfl rfl) (stg_no rfl (stg_no rfl (stg_yes [(22, _)] ⟨.inr ⟨0, _, rfl, rfl, rfl⟩, trivial⟩ (fun sl hsl K hK => one_op rfl (ok_loadP1 rfl rfl rfl rfl rfl (hsl _ _ rfl) rfl rfl hK)) (stg_yes [(22, _)] ⟨.inr ⟨0, _, rfl, rfl, rfl⟩, trivial⟩ (fun sl hsl K hK => one_op rfl (ok_loadP1 rfl rfl rfl rfl rfl (hsl _ _ rfl) rfl rfl hK)) (stg_yes [(22, _)] ⟨.inr ⟨0, _, rfl, rfl, rfl⟩, trivial⟩ (fun sl hsl K hK => one_op rfl (ok_loadP1 rfl rfl rfl rfl rfl (hsl _ _ rfl) rfl rfl hK)) stg_nil))))) ?_)
   refine ds_pure (fun _ => .p (eI i14)) rfl rfl rfl (all5 rfl rfl rfl rfl (fun _ => rfl)) (lt4 rfl rfl rfl rfl) (stg_no rfl (stg_no rfl (stg_yes [(5, _)] ⟨.inl rfl, trivial⟩ (fun sl hsl K hK => one_op rfl (ok_move rfl rfl rfl (hsl _ _ rfl) hK)) (stg_yes [(5, _)] ⟨.inl rfl, trivial⟩ (fun sl hsl K hK => one_op rfl (ok_move rfl rfl rfl (hsl _ _ rfl) hK)) (stg_yes [(5, _)] ⟨.inl rfl, trivial⟩ (fun sl hsl K hK => one_op rfl (ok_move rfl rfl rfl (hsl _ _ rfl) hK)) stg_nil))))) (ds_pure (fun _ => .rptr (TModuleStep.cs (lat a_0.fModule i14))) rfl rfl rfl (all5 rfl rfl rfl rfl (fun _ => rfl)) (lt4 rfl rfl rfl rfl) (stg_no rfl (stg_no rfl (stg_yes [(23, _), (24, _)] ⟨.inr ⟨1, _, rfl, rfl, rfl⟩, .inr ⟨2, _, rfl, rfl, rfl⟩, trivial⟩ (fun sl hsl K hK => one_op rfl (op_at (f := eTModuleStep) (l := a_0.fModule) TModuleStep.cs rfl rfl rfl rfl rfl rfl (hsl _ _ rfl) rfl (hsl _ _ rfl) hk18 TModuleStep.cells_eq (fun _ => rfl) hK)) (stg_yes [(23, _), (24, _)] ⟨.inr ⟨1, _, rfl, rfl, rfl⟩, .inr ⟨2, _, rfl, rfl, rfl⟩, trivial⟩ (fun sl hsl K hK => one_op rfl (op_at (f := eTModuleStep) (l := a_0.fModule) TModuleStep.cs rfl rfl rfl rfl rfl rfl (hsl _ _ rfl) rfl (hsl _ _ rfl) hk18 TModuleStep.cells_eq (fun _ => rfl) hK)) (stg_yes [(23, _), (24, _)] ⟨.inr ⟨1, _, rfl, rfl, rfl⟩, .inr ⟨2, _, rfl, rfl, rfl⟩, trivial⟩ (fun sl hsl K hK => one_op rfl (op_at (f := eTModuleStep) (l := a_0.fModule) TModuleStep.cs rfl rfl rfl rfl rfl rfl (hsl _ _ rfl) rfl (hsl _ _ rfl) hk18 TModuleStep.cells_eq (fun _ => rfl) hK)) stg_nil))))) ?_)
   refine ds_pure (fun _ => .p (.agg (TModuleStep.cs (lat a_0.fModule i14)))) rfl rfl rfl (all5 rfl rfl rfl rfl (fun _ => rfl)) (lt4 rfl rfl rfl rfl) (stg_no rfl (stg_no rfl (stg_yes [(25, _)] ⟨.inr ⟨3, _, rfl, rfl, rfl⟩, trivial⟩ (fun sl hsl K hK => one_op rfl (ok_loadRA rfl rfl rfl rfl rfl (hsl _ _ rfl) rfl hK)) (stg_yes [(25, _)] ⟨.inr ⟨3, _, rfl, rfl, rfl⟩, trivial⟩ (fun sl hsl K hK => one_op rfl (ok_loadRA rfl rfl rfl rfl rfl (hsl _ _ rfl) rfl hK)) (stg_yes [(25, _)] ⟨.inr ⟨3, _, rfl, rfl, rfl⟩, trivial⟩ (fun sl hsl K hK => one_op rfl (ok_loadRA rfl rfl rfl rfl rfl (hsl _ _ rfl) rfl hK)) stg_nil))))) (ds_pure (fun _ => .ptr 3 0) rfl rfl rfl (all5 rfl rfl rfl rfl (fun _ => rfl)) (lt4 rfl rfl rfl rfl) (stg_no rfl (stg_yes [(3, _)] ⟨.inl rfl, trivial⟩ (fun sl hsl K hK => one_op rfl (ok_fieldAddrP rfl rfl rfl rfl rfl rfl rfl rfl (hsl _ _ rfl) hK)) (stg_yes [(3, _)] ⟨.inl rfl, trivial⟩ (fun sl hsl K hK => one_op rfl (ok_fieldAddrP rfl rfl rfl rfl rfl rfl rfl rfl (hsl _ _ rfl) hK)) (stg_yes [(3, _)] ⟨.inl rfl, trivial⟩ (fun sl hsl K hK => one_op rfl (ok_fieldAddrP rfl rfl rfl rfl rfl rfl rfl rfl (hsl _ _ rfl) hK)) (stg_yes [(3, _)] ⟨.inl rfl, trivial⟩ (fun sl hsl K hK => one_op rfl (ok_fieldAddrP rfl rfl rfl rfl rfl rfl rfl rfl (hsl _ _ rfl) hK)) stg_nil))))) ?_)
   refine ds_pure (fun _ => .p (eL eTModuleStep b_1.fModule)) rfl rfl rfl (all5 rfl rfl rfl rfl (fun _ => rfl)) (lt4 rfl rfl rfl rfl) (stg_no rfl (stg_yes [(27, _)] ⟨.inr ⟨5, _, rfl, rfl, rfl⟩, trivial⟩ (fun sl hsl K hK => one_op rfl (ok_loadP1 rfl rfl rfl rfl rfl (hsl _ _ rfl) rfl rfl hK)) (stg_yes [(27, _)] ⟨.inr ⟨5, _, rfl, rfl, rfl⟩, trivial⟩ (fun sl hsl K hK => one_op rfl (ok_loadP1 rfl rfl rfl rfl rfl (hsl _ _ rfl) rfl rfl hK)) (stg_yes [(27, _)] ⟨.inr ⟨5, _, rfl, rfl, rfl⟩, trivial⟩ (fun sl hsl K hK => one_op rfl (ok_loadP1 rfl rfl rfl rfl rfl (hsl _ _ rfl) rfl rfl hK)) (stg_yes [(27, _)] ⟨.inr ⟨5, _, rfl, rfl, rfl⟩, trivial⟩ (fun sl hsl K hK => one_op rfl (ok_loadP1 rfl rfl rfl rfl rfl (hsl _ _ rfl) rfl rfl hK)) stg_nil))))) (ds_pure (fun _ => .p (eI i14)) rfl rfl rfl (all5 rfl rfl rfl rfl (fun _ => rfl)) (lt4 rfl rfl rfl rfl) (stg_no rfl (stg_yes [(5, _)] ⟨.inl rfl, trivial⟩ (fun sl hsl K hK => one_op rfl (ok_move rfl rfl rfl (hsl _ _ rfl) hK)) (stg_yes [(5, _)] ⟨.inl rfl, trivial⟩ (fun sl hsl K hK => one_op rfl (ok_move rfl rfl rfl (hsl _ _ rfl) hK)) (stg_yes [(5, _)] ⟨.inl rfl, trivial⟩ (fun sl hsl K hK => one_op rfl (ok_move rfl rfl rfl (hsl _ _ rfl) hK)) (stg_yes [(5, _)] ⟨.inl rfl, trivial⟩ (fun sl hsl K hK => one_op rfl (ok_move rfl rfl rfl (hsl _ _ rfl) hK)) stg_nil))))) ?_)
   refine ds_pure (fun _ => .rptr (TModuleStep.cs (lat b_1.fModule i14))) rfl rfl rfl (all5 rfl rfl rfl rfl (fun _ => rfl)) (lt4 rfl rfl rfl rfl) (stg_no rfl (stg_yes [(28, _), (29, _)] ⟨.inr ⟨6, _, rfl, rfl, rfl⟩, .inr ⟨7, _, rfl, rfl, rfl⟩, trivial⟩ (fun sl hsl K hK => one_op rfl (op_at (f := eTModuleStep) (l := b_1.fModule) TModuleStep.cs rfl rfl rfl rfl rfl rfl (hsl _ _ rfl) rfl (hsl _ _ rfl) hk19 TModuleStep.cells_eq (fun _ => rfl) hK)) (stg_yes [(28, _), (29, _)] ⟨.inr ⟨6, _, rfl, rfl, rfl⟩, .inr ⟨7, _, rfl, rfl, rfl⟩, trivial⟩ (fun sl hsl K hK => one_op rfl (op_at (f := eTModuleStep) (l := b_1.fModule) TModuleStep.cs rfl rfl rfl rfl rfl rfl (hsl _ _ rfl) rfl (hsl _ _ rfl) hk19 TModuleStep.cells_eq (fun _ => rfl) hK)) (stg_yes [(28, _), (29, _)] ⟨.inr ⟨6, _, rfl, rfl, rfl⟩, .inr ⟨7, _, rfl, rfl, rfl⟩, trivial⟩ (fun sl hsl K hK => one_op rfl (op_at (f := eTModuleStep) (l := b_1.fModule) TModuleStep.cs rfl rfl rfl rfl rfl rfl (hsl _ _ rfl) rfl (hsl _ _ rfl) hk19 TModuleStep.cells_eq (fun _ => rfl) hK)) (stg_yes [(28, _), (29, _)] ⟨.inr ⟨6, _, rfl, rfl, rfl⟩, .inr ⟨7, _, rfl, rfl, rfl⟩, trivial⟩ (fun sl hsl K hK => one_op rfl (op_at (f := eTModuleStep) (l := b_1.fModule) TModuleStep.cs rfl rfl rfl rfl rfl rfl (hsl _ _ rfl) rfl (hsl _ _ rfl) hk19 TModuleStep.cells_eq (fun _ => rfl) hK)) stg_nil))))) (ds_pure (fun _ => .p (.agg (TModuleStep.cs (lat b_1.fModule i14)))) rfl rfl rfl (all5 rfl rfl rfl rfl (fun _ => rfl)) (lt4 rfl rfl rfl rfl) (stg_no rfl (stg_yes [(30, _)] ⟨.inr ⟨8, _, rfl, rfl, rfl⟩, trivial⟩ (fun sl hsl K hK => one_op rfl (ok_loadRA rfl rfl rfl rfl rfl (hsl _ _ rfl) rfl hK)) (stg_yes [(30, _)] ⟨.inr ⟨8, _, rfl, rfl, rfl⟩, trivial⟩ (fun sl hsl K hK => one_op rfl (ok_loadRA rfl rfl rfl rfl rfl (hsl _ _ rfl) rfl hK)) (stg_yes [(30, _)] ⟨.inr ⟨8, _, rfl, rfl, rfl⟩, trivial⟩ (fun sl hsl K hK => one_op rfl (ok_loadRA rfl rfl rfl rfl rfl (hsl _ _ rfl) rfl hK)) (stg_yes [(30, _)] ⟨.inr ⟨8, _, rfl, rfl, rfl⟩, trivial⟩ (fun sl hsl K hK => one_op rfl (ok_loadRA rfl rfl rfl rfl rfl (hsl _ _ rfl) rfl hK)) stg_nil))))) ?_)
   refine ds_imp (fun _ => .ptr 6 0) [] rfl trivial rfl rfl (all4 rfl rfl rfl (fun _ => rfl)) (lt4 (fun h => absurd h (by decide)) (fun _ => rfl) (fun _ => rfl) (fun _ => rfl)) (fun sl hsl K hK => one_op rfl (ok_alloc rfl rfl rfl rfl rfl hK)) (ds_imp (fun _ => .ptr 7 0) [] rfl trivial rfl rfl (all3 rfl rfl (fun _ => rfl)) (lt4 (fun h => absurd h (by decide)) (fun h => absurd h (by decide)) (fun _ => rfl) (fun _ => rfl)) (fun sl hsl K hK => one_op rfl (ok_alloc rfl rfl rfl rfl rfl hK)) ?_)
   refine ds_store [(6, _), (26, _)] rfl ⟨.inr ⟨10, _, rfl, rfl, rfl⟩, .inr ⟨4, _, rfl, rfl, rfl⟩, trivial⟩ rfl (fun sl hsl K hK => one_op rfl (ok_store rfl rfl rfl (hsl _ _ rfl) (hsl _ _ rfl) rfl rfl rfl (Nat.le_of_ble_eq_true rfl) hK)) (ds_store [(7, _), (31, _)] rfl ⟨.inr ⟨11, _, rfl, rfl, rfl⟩, .inr ⟨9, _, rfl, rfl, rfl⟩, trivial⟩ rfl (fun sl hsl K hK => one_op rfl (ok_store rfl rfl rfl (hsl _ _ rfl) (hsl _ _ rfl) rfl rfl rfl (Nat.le_of_ble_eq_true rfl) hK)) ?_)
   refine ds_one (ds_pure (fun _ => .ptr 2 0) rfl rfl rfl (all5 rfl rfl rfl rfl (fun _ => rfl)) (lt4 rfl rfl rfl rfl) (stg_no rfl (stg_no rfl (stg_yes [(2, _)] ⟨.inl rfl, trivial⟩ (fun sl hsl K hK => one_op rfl (ok_fieldAddrP rfl rfl rfl rfl rfl rfl rfl rfl (hsl _ _ rfl) hK)) (stg_yes [(2, _)] ⟨.inl rfl, trivial⟩ (fun sl hsl K hK => one_op rfl (ok_fieldAddrP rfl rfl rfl rfl rfl rfl rfl rfl (hsl _ _ rfl) hK)) (stg_yes [(2, _)] ⟨.inl rfl, trivial⟩ (fun sl hsl K hK => one_op rfl (ok_fieldAddrP rfl rfl rfl rfl rfl rfl rfl rfl (hsl _ _ rfl) hK)) stg_nil))))) (ds_pure (fun _ => .p (eL eTModuleStep a_0.fModule)) rfl rfl rfl (all5 rfl rfl rfl rfl (fun _ => rfl)) (lt4 rfl rfl rfl rfl) (stg_no rfl (stg_no rfl (stg_yes [(22, _)] ⟨.inr ⟨0, _, rfl, rfl, rfl⟩, trivial⟩ (fun sl hsl K hK => one_op rfl (ok_loadP1 rfl rfl rfl rfl rfl (hsl _ _ rfl) rfl rfl hK)) (stg_yes [(22, _)] ⟨.inr ⟨0, _, rfl, rfl, rfl⟩, trivial⟩ (fun sl hsl K hK => one_op rfl (ok_loadP1 rfl rfl rfl rfl rfl (hsl _ _ rfl) rfl rfl hK)) (stg_yes [(22, _)] ⟨.inr ⟨0, _, rfl, rfl, rfl⟩, trivial⟩ (fun sl hsl K hK => one_op rfl (ok_loadP1 rfl rfl rfl rfl rfl (hsl _ _ rfl) rfl rfl hK)) stg_nil))))) (ds_pure (fun _ => .p (eI i14)) rfl rfl rfl (all5 rfl rfl rfl rfl (fun _ => rfl)) (lt4 rfl rfl rfl rfl) (stg_no rfl (stg_no rfl (stg_yes [(5, _)] ⟨.inl rfl, trivial⟩ (fun sl hsl K hK => one_op rfl (ok_move rfl rfl rfl (hsl _ _ rfl) hK)) (stg_yes [(5, _)] ⟨.inl rfl, trivial⟩ (fun sl hsl K hK => one_op rfl (ok_move rfl rfl rfl (hsl _ _ rfl) hK)) (stg_yes [(5, _)] ⟨.inl rfl, trivial⟩ (fun sl hsl K hK => one_op rfl (ok_move rfl rfl rfl (hsl _ _ rfl) hK)) stg_nil))))) (ds_pure (fun _ => .rptr (TModuleStep.cs (lat a_0.fModule i14))) rfl rfl rfl (all5 rfl rfl rfl rfl (fun _ => rfl)) (lt4 rfl rfl rfl rfl) (stg_no rfl (stg_no rfl (stg_yes [(23, _), (24, _)] ⟨.inr ⟨1, _, rfl, rfl, rfl⟩, .inr ⟨2, _, rfl, rfl, rfl⟩, trivial⟩ (fun sl hsl K hK => one_op rfl (op_at (f := eTModuleStep) (l := a_0.fModule) TModuleStep.cs rfl rfl rfl rfl rfl rfl (hsl _ _ rfl) rfl (hsl _ _ rfl) hk18 TModuleStep.cells_eq (fun _ => rfl) hK)) (stg_yes [(23, _), (24, _)] ⟨.inr ⟨1, _, rfl, rfl, rfl⟩, .inr ⟨2, _, rfl, rfl, rfl⟩, trivial⟩ (fun sl hsl K hK => one_op rfl (op_at (f := eTModuleStep) (l := a_0.fModule) TModuleStep.cs rfl rfl rfl rfl rfl rfl (hsl _ _ rfl) rfl (hsl _ _ rfl) hk18 TModuleStep.cells_eq (fun _ => rfl) hK)) (stg_yes [(23, _), (24, _)] ⟨.inr ⟨1, _, rfl, rfl, rfl⟩, .inr ⟨2, _, rfl, rfl, rfl⟩, trivial⟩ (fun sl hsl K hK => one_op rfl (op_at (f := eTModuleStep) (l := a_0.fModule) TModuleStep.cs rfl rfl rfl rfl rfl rfl (hsl _ _ rfl) rfl (hsl _ _ rfl) hk18 TModuleStep.cells_eq (fun _ => rfl) hK)) stg_nil))))) (ds_pure (fun _ => .p (.agg (TModuleStep.cs (lat a_0.fModule i14)))) rfl rfl rfl (all5 rfl rfl rfl rfl (fun _ => rfl)) (lt4 rfl rfl rfl rfl) (stg_no rfl (stg_no rfl (stg_yes [(25, _)] ⟨.inr ⟨3, _, rfl, rfl, rfl⟩, trivial⟩ (fun sl hsl K hK => one_op rfl (ok_loadRA rfl rfl rfl rfl rfl (hsl _ _ rfl) rfl hK)) (stg_yes [(25, _)] ⟨.inr ⟨3, _, rfl, rfl, rfl⟩, trivial⟩ (fun sl hsl K hK => one_op rfl (ok_loadRA rfl rfl rfl rfl rfl (hsl _ _ rfl) rfl hK)) (stg_yes [(25, _)] ⟨.inr ⟨3, _, rfl, rfl, rfl⟩, trivial⟩ (fun sl hsl K hK => one_op rfl (ok_loadRA rfl rfl rfl rfl rfl (hsl _ _ rfl) rfl hK)) stg_nil))))) (ds_pure (fun _ => .ptr 3 0) rfl rfl rfl (all5 rfl rfl rfl rfl (fun _ => rfl)) (lt4 rfl rfl rfl rfl) (stg_no rfl (stg_yes [(3, _)] ⟨.inl rfl, trivial⟩ (fun sl hsl K hK => one_op rfl (ok_fieldAddrP rfl rfl rfl rfl rfl rfl rfl rfl (hsl _ _ rfl) hK)) (stg_yes [(3, _)] ⟨.inl rfl, trivial⟩ (fun sl hsl K hK => one_op rfl (ok_fieldAddrP rfl rfl rfl rfl rfl rfl rfl rfl (hsl _ _ rfl) hK)) (stg_yes [(3, _)] ⟨.inl rfl, trivial⟩ (fun sl hsl K hK => one_op rfl (ok_fieldAddrP rfl rfl rfl rfl rfl rfl rfl rfl (hsl _ _ rfl) hK)) (stg_yes [(3, _)] ⟨.inl rfl, trivial⟩ (fun sl hsl K hK => one_op rfl (ok_fieldAddrP rfl rfl rfl rfl rfl rfl rfl rfl (hsl _ _ rfl) hK)) stg_nil))))) (ds_pure (fun _ => .p (eL eTModuleStep b_1.fModule)) rfl rfl rfl (all5 rfl rfl rfl rfl (fun _ => rfl)) (lt4 rfl rfl rfl rfl) (stg_no rfl (stg_yes [(27, _)] ⟨.inr ⟨5, _, rfl, rfl, rfl⟩, trivial⟩ (fun sl hsl K hK => one_op rfl (ok_loadP1 rfl rfl rfl rfl rfl (hsl _ _ rfl) rfl rfl hK)) (stg_yes [(27, _)] ⟨.inr ⟨5, _, rfl, rfl, rfl⟩, trivial⟩ (fun sl hsl K hK => one_op rfl (ok_loadP1 rfl rfl rfl rfl rfl (hsl _ _ rfl) rfl rfl hK)) (stg_yes [(27, _)] ⟨.inr ⟨5, _, rfl, rfl, rfl⟩, trivial⟩ (fun sl hsl K hK => one_op rfl (ok_loadP1 rfl rfl rfl rfl rfl (hsl _ _ rfl) rfl rfl hK)) (stg_yes [(27, _)] ⟨.inr ⟨5, _, rfl, rfl, rfl⟩, trivial⟩ (fun sl hsl K hK => one_op rfl (ok_loadP1 rfl rfl rfl rfl rfl (hsl _ _ rfl) rfl rfl hK)) stg_nil))))) (ds_pure (fun _ => .p (eI i14)) rfl rfl rfl (all5 rfl rfl rfl rfl (fun _ => rfl)) (lt4 rfl rfl rfl rfl) (stg_no rfl (stg_yes [(5, _)] ⟨.inl rfl, trivial⟩ (fun sl hsl K hK => one_op rfl (ok_move rfl rfl rfl (hsl _ _ rfl) hK)) (stg_yes [(5, _)] ⟨.inl rfl, trivial⟩ (fun sl hsl K hK => one_op rfl (ok_move rfl rfl rfl (hsl _ _ rfl) hK)) (stg_yes [(5, _)] ⟨.inl rfl, trivial⟩ (fun sl hsl K hK => one_op rfl (ok_move rfl rfl rfl (hsl _ _ rfl) hK)) (stg_yes [(5, _)] ⟨.inl rfl, trivial⟩ (fun sl hsl K hK => one_op rfl (ok_move rfl rfl rfl (hsl _ _ rfl) hK)) stg_nil))))) (ds_pure (fun _ => .rptr (TModuleStep.cs (lat b_1.fModule i14))) rfl rfl rfl (all5 rfl rfl rfl rfl (fun _ => rfl)) (lt4 rfl rfl rfl rfl) (stg_no rfl (stg_yes [(28, _), (29, _)] ⟨.inr ⟨6, _, rfl, rfl, rfl⟩, .inr ⟨7, _, rfl, rfl, rfl⟩, trivial⟩ (fun sl hsl K hK => one_op rfl (op_at (f := eTModuleStep) (l := b_1.fModule) TModuleStep.cs rfl rfl rfl rfl rfl rfl (hsl _ _ rfl) rfl (hsl _ _ rfl) hk19 TModuleStep.cells_eq (fun _ => rfl) hK)) (stg_yes [(28, _), (29, _)] ⟨.inr ⟨6, _, rfl, rfl, rfl⟩, .inr ⟨7, _, rfl, rfl, rfl⟩, trivial⟩ (fun sl hsl K hK => one_op rfl (op_at (f := eTModuleStep) (l := b_1.fModule) TModuleStep.cs rfl rfl rfl rfl rfl rfl (hsl _ _ rfl) rfl (hsl _ _ rfl) hk19 TModuleStep.cells_eq (fun _ => rfl) hK)) (stg_yes [(28, _), (29, _)] ⟨.inr ⟨6, _, rfl, rfl, rfl⟩, .inr ⟨7, _, rfl, rfl, rfl⟩, trivial⟩ (fun sl hsl K hK => one_op rfl (op_at (f := eTModuleStep) (l := b_1.fModule) TModuleStep.cs rfl rfl rfl rfl rfl rfl (hsl _ _ rfl) rfl (hsl _ _ rfl) hk19 TModuleStep.cells_eq (fun _ => rfl) hK)) (stg_yes [(28, _), (29, _)] ⟨.inr ⟨6, _, rfl, rfl, rfl⟩, .inr ⟨7, _, rfl, rfl, rfl⟩, trivial⟩ (fun sl hsl K hK => one_op rfl (op_at (f := eTModuleStep) (l := b_1.fModule) TModuleStep.cs rfl rfl rfl rfl rfl rfl (hsl _ _ rfl) rfl (hsl _ _ rfl) hk19 TModuleStep.cells_eq (fun _ => rfl) hK)) stg_nil))))) (ds_pure (fun _ => .p (.agg (TModuleStep.cs (lat b_1.fModule i14)))) rfl rfl rfl (all5 rfl rfl rfl rfl (fun _ => rfl)) (lt4 rfl rfl rfl rfl) (stg_no rfl (stg_yes [(30, _)] ⟨.inr ⟨8, _, rfl, rfl, rfl⟩, trivial⟩ (fun sl hsl K hK => one_op rfl (ok_loadRA rfl rfl rfl rfl rfl (hsl _ _ rfl) rfl hK)) (stg_yes [(30, _)] ⟨.inr ⟨8, _, rfl, rfl, rfl⟩, trivial⟩ (fun sl hsl K hK => one_op rfl (ok_loadRA rfl rfl rfl rfl rfl (hsl _ _ rfl) rfl hK)) (stg_yes [(30, _)] ⟨.inr ⟨8, _, rfl, rfl, rfl⟩, trivial⟩ (fun sl hsl K hK => one_op rfl (ok_loadRA rfl rfl rfl rfl rfl (hsl _ _ rfl) rfl hK)) (stg_yes [(30, _)] ⟨.inr ⟨8, _, rfl, rfl, rfl⟩, trivial⟩ (fun sl hsl K hK => one_op rfl (ok_loadRA rfl rfl rfl rfl rfl (hsl _ _ rfl) rfl hK)) stg_nil))))) (ds_imp (fun _ => .ptr 6 0) [] rfl trivial rfl rfl (all3 rfl rfl (fun _ => rfl)) (lt4 (fun h => absurd h (by decide)) (fun h => absurd h (by decide)) (fun _ => rfl) (fun _ => rfl)) (fun sl hsl K hK => one_op rfl (ok_alloc rfl rfl rfl rfl rfl hK)) (ds_imp (fun _ => .ptr 7 0) [] rfl trivial rfl rfl (all4 rfl rfl rfl (fun _ => rfl)) (lt4 (fun h => absurd h (by decide)) (fun _ => rfl) (fun _ => rfl) (fun _ => rfl)) (fun sl hsl K hK => one_op rfl (ok_alloc rfl rfl rfl rfl rfl hK)) (ds_store [(6, _), (26, _)] rfl ⟨.inr ⟨10, _, rfl, rfl, rfl⟩, .inr ⟨4, _, rfl, rfl, rfl⟩, trivial⟩ rfl (fun sl hsl K hK => one_op rfl (ok_store rfl rfl rfl (hsl _ _ rfl) (hsl _ _ rfl) rfl rfl rfl (Nat.le_of_ble_eq_true rfl) hK)) (ds_store [(7, _), (31, _)] rfl ⟨.inr ⟨11, _, rfl, rfl, rfl⟩, .inr ⟨9, _, rfl, rfl, rfl⟩, trivial⟩ rfl (fun sl hsl K hK => one_op rfl (ok_store rfl rfl rfl (hsl _ _ rfl) (hsl _ _ rfl) rfl rfl rfl (Nat.le_of_ble_eq_true rfl) hK)) (ds_two rfl ⟨rfl, rfl, rfl, rfl, rfl, rfl, trivial⟩ ⟨⟨rfl, rfl, .inl rfl⟩, ⟨⟨rfl, rfl, .inl rfl⟩, ⟨⟨rfl, rfl, .inr rfl⟩, ⟨⟨rfl, rfl, .inr rfl⟩, ⟨⟨rfl, rfl, .inr rfl⟩, ⟨⟨rfl, rfl, .inr rfl⟩, ⟨⟨rfl, rfl, .inr rfl⟩, ⟨⟨rfl, rfl, .inr rfl⟩, ⟨⟨rfl, rfl, .inr rfl⟩, ⟨⟨rfl, rfl, .inr rfl⟩, ⟨⟨rfl, rfl, .inr rfl⟩, ⟨⟨rfl, rfl, .inr rfl⟩, trivial⟩⟩⟩⟩⟩⟩⟩⟩⟩⟩⟩⟩))))))))))))))) (nx 8 rfl ?_)
   refine oS rfl rfl (nx 1 rfl ?_)
   refine fN [36] h1 rfl (fun c20 h1 => ?_) fun c20 h1 => ?_
   ·refine nx 8 rfl (mO rfl (op_eqS (((lat a_0.fModule i14).fKey).fKind = ((lat b_1.fModule i14).fKey).fKind ∧ ((lat a_0.fModule i14).fKey).fNum = ((lat b_1.fModule i14).fKey).fNum ∧ ((lat a_0.fModule i14).fKey).fStr = ((lat b_1.fModule i14).fKey).fStr) rfl rfl rfl rfl rfl rfl rfl (by kernel_rfl) rfl rfl (.inr ⟨rfl, rfl⟩) ?_))
    refine nx 1 rfl (fN [46] h1 rfl (fun c23 h1 => ?_) fun c23 h1 => ?_)
    ·refine nx 4 rfl (oA h1 rfl rfl fun hk26 h1 => ?_)
     exact nx 2 rfl (eX (i14 + 1) h1 (gE rfl rfl))
    refine nx 7 rfl (bd h1 fun r24 e25 h1 => ?_)
    refine oK (ref06_CompareKeys_ok ((lat a_0.fModule i14).fKey) ((lat b_1.fModule i14).fKey) _ e25) rfl ⟨sr, sr, trivial⟩ Tryz.call59 rfl (nx 2 rfl ?_)
    refine mG (gE (t := ⟨[(4, .p (eI r24))], []⟩) rfl rfl) (nx 1 rfl ?_)
    exact mQ (hR0 _ (oi h1).symm) rfl (sr)
   refine nx 7 rfl (bd h1 fun r21 e22 h1 => ?_)
   refine oK (ref06_words_ok ((lat a_0.fModule i14).fName) ((lat b_1.fModule i14).fName) _ e22) rfl ⟨sr, sr, trivial⟩ Tryz.call58 rfl (nx 2 rfl ?_)
   refine mG (gE (t := ⟨[(4, .p (eI r21))], []⟩) rfl rfl) (nx 1 rfl ?_)
   exact mQ (hR0 _ (oi h1).symm) rfl (sr)
  exact nx 2 rfl (eXi _ (oi h1).symm (gE rfl rfl))
 refine nx 4 rfl (oLl (f := eTModuleStep) rfl rfl ?_)
 refine nx 2 rfl (fD [12, 13] h2 rfl (fun c15 h2 => ?_) fun c15 h2 => ?_)
 ·refine nx 3 rfl (oLl (f := eTModuleStep) rfl rfl ?_)
  exact nx 3 rfl (eX _ (oi h2).symm (gE rfl rfl))
 exact nx 7 rfl (eX _ (oi h2).symm (gE rfl rfl))

def law06_AddressOrders (n : Nat) (a_0 : TAddress) (b_1 : TAddress) (c_2 : TAddress) : Option Bool :=
 (
   (law06_few n a_0).bind fun r1 =>
   if (!r1) = true then
    some true
   else
    (law06_few n b_1).bind fun r4 =>
    if (!r4) = true then
     some true
    else
     (law06_few n c_2).bind fun r7 =>
     some (!r7)
  : Option Bool).bind fun t9 =>
 if t9 = true then
  (law06_awake n).bind fun r11 =>
  some r11
 else
  (address_Compare n a_0 b_1).bind fun r13 =>
  (
    (ref06_Compare n a_0 b_1).bind fun r15 =>
    if r13 = r15 then
     (address_Compare n b_1 a_0).bind fun r18 =>
     ck (inR (0 - r18)) <|
     if r13 = 0 - r18 then
      (law06_Same n a_0 b_1).bind fun r22 =>
      if (!((decide (r13 = 0)) == r22)) = true then
       some true
      else
       (address_Compare n a_0 a_0).bind fun r25 =>
       some (!decide (r25 = 0))
     else
      some true
    else
     some true
   : Option Bool).bind fun t27 =>
  if t27 = true then
   some false
  else
   (
     if 0 < r13 then
      (law06_awake n).bind fun r30 =>
      some r30
     else
      (address_Compare n b_1 c_2).bind fun r32 =>
      if 0 < r32 then
       (law06_awake n).bind fun r35 =>
       some r35
      else
       (address_Compare n a_0 c_2).bind fun r37 =>
       if r37 ≤ 0 then
        (law06_awake n).bind fun r40 =>
        some r40
       else
        some false
    : Option Bool).bind fun t42 =>
   some t42

set_option maxHeartbeats 4000000 in
theorem law06_AddressOrders_ok (n : Nat) (a_0 : TAddress) (b_1 : TAddress) (c_2 : TAddress) (r : Bool) (h0 : law06_AddressOrders n a_0 b_1 c_2 = some r) : PCalls Tryz.prog 6 [.agg (TAddress.cs a_0), .agg (TAddress.cs b_1), .agg (TAddress.cs c_2)] (· = .p (eB r)) := by
 unfold law06_AddressOrders at h0
 refine pbodyA good Tryz.func6 rfl rfl rfl fun w0 => mP (fun v : Bool => .p (eB v)) ?_
 refine nx 9 rfl (bd h0 fun o46 h1 h0 => ?_)
 refine kN o46 (fun v47 => ⟨[(3, .ptr 3 0), (4, .ptr 4 0), (5, .ptr 5 0), (20, .p (eB v47))], [(3, (TAddress.cs a_0).map .p), (4, (TAddress.cs b_1).map .p), (5, (TAddress.cs c_2).map .p)]⟩) ?_ ?_
 ·refine nx 1 rfl (fB [20] h0 rfl (fun c10 h0 => ?_) fun c10 h0 => ?_)
  ·refine nx 3 rfl (bd h0 fun r11 e12 h0 => ?_)
   refine oK (law06_awake_ok _  _ e12) rfl trivial Tryz.call8 rfl (nx 3 rfl ?_)
   exact mQ (oi h0) rfl (sr)
  refine nx 6 rfl (bd h0 fun r13 e14 h0 => ?_)
  refine oK (address_Compare_ok _ a_0 b_1 _ e14) rfl ⟨sr, sr, trivial⟩ Tryz.call22 rfl (nx 4 rfl ?_)
  refine bd h0 fun o48 h1 h0 => kN o48 (fun v49 => ⟨[(3, .ptr 3 0), (4, .ptr 4 0), (5, .ptr 5 0), (7, .p (eI r13)), (51, .p (eB v49))], [(3, (TAddress.cs a_0).map .p), (4, (TAddress.cs b_1).map .p), (5, (TAddress.cs c_2).map .p)]⟩) ?_ ?_
  ·refine nx 1 rfl (fB [51] h0 rfl (fun c28 h0 => ?_) fun c28 h0 => ?_)
   ·exact nx 6 rfl (mQ (oi h0) rfl (sr))
   refine nx 3 rfl (bd h0 fun o50 h1 h0 => ?_)
   refine kN o50 (fun v51 => ⟨[(6, .p (eB v51))], []⟩) ?_ ?_
   ·exact nx 2 rfl (mQ (oi h0) rfl (sr))
   refine nx 4 rfl (fD [53, 54] h1 rfl (fun c29 h1 => ?_) fun c29 h1 => ?_)
   ·refine nx 12 rfl (bd h1 fun r30 e31 h1 => ?_)
    refine oK (law06_awake_ok _  _ e31) rfl trivial Tryz.call8 rfl (nx 3 rfl ?_)
    exact eX _ (oi h1).symm (gE rfl rfl)
   refine nx 2 rfl (bd h1 fun r32 e33 h1 => ?_)
   refine oK (address_Compare_ok _ b_1 c_2 _ e33) rfl ⟨sr, sr, trivial⟩ Tryz.call22 rfl (nx 3 rfl ?_)
   refine fD [58, 59, 60] h1 rfl (fun c34 h1 => ?_) fun c34 h1 => ?_
   ·refine nx 6 rfl (bd h1 fun r35 e36 h1 => ?_)
    refine oK (law06_awake_ok _  _ e36) rfl trivial Tryz.call8 rfl (nx 3 rfl ?_)
    exact eX _ (oi h1).symm (gE rfl rfl)
   refine nx 2 rfl (bd h1 fun r37 e38 h1 => ?_)
   refine oK (address_Compare_ok _ a_0 c_2 _ e38) rfl ⟨sr, sr, trivial⟩ Tryz.call22 rfl (nx 3 rfl ?_)
   refine fD [64, 65, 66] h1 rfl (fun c39 h1 => ?_) fun c39 h1 => ?_
   ·refine bd h1 fun r40 e41 h1 => oK (law06_awake_ok _  _ e41) rfl trivial Tryz.call8 rfl (nx 3 rfl ?_)
    exact eX _ (oi h1).symm (gE rfl rfl)
   exact nx 4 rfl (eX _ (oi h1).symm (gE rfl rfl))
  refine nx 4 rfl (bd h1 fun r15 e16 h1 => ?_)
  refine oK (ref06_Compare_ok _ a_0 b_1 _ e16) rfl ⟨sr, sr, trivial⟩ Tryz.call23 rfl (nx 2 rfl ?_)
  refine fN [29, 30] h1 rfl (fun c17 h1 => ?_) fun c17 h1 => ?_
  ·refine nx 3 rfl (bd h1 fun r18 e19 h1 => ?_)
   refine oK (address_Compare_ok _ b_1 a_0 _ e19) rfl ⟨sr, sr, trivial⟩ Tryz.call22 rfl (cc' h1 fun hk20 h1 => ?_)
   refine mO rfl (ok_neg rfl rfl rfl rfl hk20 ?_)
   refine nx 3 rfl (fN [36, 37, 38] h1 rfl (fun c21 h1 => ?_) fun c21 h1 => ?_)
   ·refine nx 4 rfl (bd h1 fun r22 e23 h1 => ?_)
    refine oK (law06_Same_ok _ a_0 b_1 _ e23) rfl ⟨sr, sr, trivial⟩ Tryz.call19 rfl (nx 3 rfl ?_)
    refine fB [44, 45, 46] h1 rfl (fun c24 h1 => ?_) fun c24 h1 => ?_
    ·exact nx 6 rfl (eX _ (oi h1).symm (gE rfl rfl))
    refine nx 2 rfl (bd h1 fun r25 e26 h1 => ?_)
    refine oK (address_Compare_ok _ a_0 a_0 _ e26) rfl ⟨sr, sr, trivial⟩ Tryz.call22 rfl (nx 3 rfl ?_)
    exact eX _ (oi h1).symm (gE rfl rfl)
   exact nx 14 rfl (eX _ (oi h1).symm (gE rfl rfl))
  exact nx 22 rfl (eX _ (oi h1).symm (gE rfl rfl))
 refine nx 2 rfl (bd h1 fun r1 e2 h1 => ?_)
 refine oK (law06_few_ok _ a_0 _ e2) rfl ⟨sr, trivial⟩ Tryz.call7 rfl (nx 2 rfl ?_)
 refine fB [10, 11] h1 rfl (fun c3 h1 => ?_) fun c3 h1 => ?_
 ·exact nx 10 rfl (eX _ (oi h1).symm (gE rfl rfl))
 refine nx 1 rfl (bd h1 fun r4 e5 h1 => ?_)
 refine oK (law06_few_ok _ b_1 _ e5) rfl ⟨sr, trivial⟩ Tryz.call7 rfl (nx 3 rfl ?_)
 refine fB [14, 15, 16] h1 rfl (fun c6 h1 => ?_) fun c6 h1 => ?_
 ·exact nx 5 rfl (eX _ (oi h1).symm (gE rfl rfl))
 refine nx 1 rfl (bd h1 fun r7 e8 h1 => ?_)
 refine oK (law06_few_ok _ c_2 _ e8) rfl ⟨sr, trivial⟩ Tryz.call7 rfl (nx 3 rfl ?_)
 exact eX _ (oi h1).symm (gE rfl rfl)

end Go.Ab.R06
