/- Chapter 46. -/
import Derived.Test.YtapfhipodpbflaaGreatDoorDat46
import Derived.Test.YtapfhipodpbflaaGreatDoorRB
import Derived.Test.YtapfhipodpbflaaGreatDoorLb06
import Derived.Test.YtapfhipodpbflaaGreatDoorLc
import Derived.Test.YtapfhipodpbflaaGreatDoorCl46
import Derived.Test.YtapfhipodpbflaaGreatDoorAbGw
import Derived.Test.YtapfhipodpbflaaGreatDoorAbMk
import Derived.Test.YtapfhipodpbflaaGreatDoorAbSm
set_option linter.unusedVariables false
set_option linter.unusedSimpArgs false
set_option linter.unnecessarySimpa false
namespace Go.Ab.R06
open Go.Proofs Go.Ab Go.Ab.RB
attribute [local irreducible] awp rwpL OpOk PCalls OCalls AV.sub M Ghost

def explain_Reason (r_0 : Int) : Option Bytes :=
 if r_0 = 1 then
  some ([110, 101, 119] : Bytes)
 else
  if r_0 = 2 then
   some ([99, 104, 97, 110, 103, 101, 100] : Bytes)
  else
   if r_0 = 3 then
    some ([114, 101, 113, 117, 105, 114, 101, 115, 32, 97, 32, 110, 101, 119, 32, 111, 98, 106, 101, 99, 116] : Bytes)
   else
    if r_0 = 4 then
     some ([116, 97, 105, 110, 116, 101, 100] : Bytes)
    else
     if r_0 = 5 then
      some ([116, 114, 105, 103, 103, 101, 114, 101, 100] : Bytes)
     else
      if r_0 = 6 then
       some ([114, 101, 113, 117, 101, 115, 116, 101, 100] : Bytes)
      else
       if r_0 = 7 then
        some ([110, 111, 116, 32, 105, 110, 32, 116, 104, 101, 32, 99, 111, 110, 102, 105, 103, 117, 114, 97, 116, 105, 111, 110] : Bytes)
       else
        if r_0 = 8 then
         some ([110, 111, 32, 115, 117, 99, 104, 32, 105, 110, 115, 116, 97, 110, 99, 101] : Bytes)
        else
         if r_0 = 9 then
          some ([108, 101, 102, 116, 32, 111, 118, 101, 114] : Bytes)
         else
          if r_0 = 10 then
           some ([100, 101, 115, 116, 114, 111, 121] : Bytes)
          else
           if r_0 = 11 then
            some ([110, 111, 116, 32, 107, 110, 111, 119, 110, 32, 121, 101, 116] : Bytes)
           else
            some ([] : Bytes)

set_option maxHeartbeats 4000000 in
theorem explain_Reason_ok (r_0 : Int) (r : Bytes) (h0 : explain_Reason r_0 = some r) : PCalls Tryz.prog 7 [eI r_0] (· = .p (eS r)) := by
 unfold explain_Reason at h0
 refine pbodyA good Tryz.func7 rfl rfl rfl fun w0 => mP (fun v : Bytes => .p (eS v)) ?_
 refine nx 15 rfl (fD [4, 5] h0 rfl (fun c1 h0 => ?_) fun c1 h0 => ?_)
 ·exact nx 6 rfl (mQ (oi h0) rfl (sr))
 refine nx 6 rfl (fD [6, 7] h0 rfl (fun c2 h0 => ?_) fun c2 h0 => ?_)
 ·exact nx 6 rfl (mQ (oi h0) rfl (sr))
 refine nx 6 rfl (fD [8, 9] h0 rfl (fun c3 h0 => ?_) fun c3 h0 => ?_)
 ·exact nx 6 rfl (mQ (oi h0) rfl (sr))
 refine nx 6 rfl (fD [10, 11] h0 rfl (fun c4 h0 => ?_) fun c4 h0 => ?_)
 ·exact nx 6 rfl (mQ (oi h0) rfl (sr))
 refine nx 6 rfl (fD [12, 13] h0 rfl (fun c5 h0 => ?_) fun c5 h0 => ?_)
 ·exact nx 6 rfl (mQ (oi h0) rfl (sr))
 refine nx 6 rfl (fD [14, 15] h0 rfl (fun c6 h0 => ?_) fun c6 h0 => ?_)
 ·exact nx 6 rfl (mQ (oi h0) rfl (sr))
 refine nx 6 rfl (fD [16, 17] h0 rfl (fun c7 h0 => ?_) fun c7 h0 => ?_)
 ·exact nx 6 rfl (mQ (oi h0) rfl (sr))
 refine nx 6 rfl (fD [18, 19] h0 rfl (fun c8 h0 => ?_) fun c8 h0 => ?_)
 ·exact nx 6 rfl (mQ (oi h0) rfl (sr))
 refine nx 6 rfl (fD [20, 21] h0 rfl (fun c9 h0 => ?_) fun c9 h0 => ?_)
 ·exact nx 6 rfl (mQ (oi h0) rfl (sr))
 refine nx 6 rfl (fD [22, 23] h0 rfl (fun c10 h0 => ?_) fun c10 h0 => ?_)
 ·exact nx 6 rfl (mQ (oi h0) rfl (sr))
 refine nx 6 rfl (fD [24, 25] h0 rfl (fun c11 h0 => ?_) fun c11 h0 => ?_)
 ·exact nx 6 rfl (mQ (oi h0) rfl (sr))
 refine nx 2 rfl (mG (gE (t := ⟨[], []⟩) rfl rfl) ?_)
 exact nx 5 rfl (mQ (oi h0) rfl (sr))

def explain_sign (c_0 : TChange) : Option Bytes :=
 if c_0.fAction = 1 then
  some ([43] : Bytes)
 else
  if c_0.fAction = 2 then
   some ([126] : Bytes)
  else
   if c_0.fAction = 3 then
    if c_0.fCreateFirst = true then
     some ([43, 47, 45] : Bytes)
    else
     some ([45, 47, 43] : Bytes)
   else
    if c_0.fAction = 4 then
     some ([45] : Bytes)
    else
     if c_0.fAction = 5 then
      some ([60, 61] : Bytes)
     else
      some ([] : Bytes)

set_option maxHeartbeats 4000000 in
theorem explain_sign_ok (c_0 : TChange) (r : Bytes) (h0 : explain_sign c_0 = some r) : PCalls Tryz.prog 26 [.agg (TChange.cs c_0)] (· = .p (eS r)) := by
 unfold explain_sign at h0
 refine pbodyA good Tryz.func26 rfl rfl rfl fun w0 => mP (fun v : Bytes => .p (eS v)) ?_
 refine nx 17 rfl (fD [5, 6] h0 rfl (fun c1 h0 => ?_) fun c1 h0 => ?_)
 ·exact nx 6 rfl (mQ (oi h0) rfl (sr))
 refine nx 6 rfl (fD [7, 8] h0 rfl (fun c2 h0 => ?_) fun c2 h0 => ?_)
 ·exact nx 6 rfl (mQ (oi h0) rfl (sr))
 refine nx 6 rfl (fD [9, 10] h0 rfl (fun c3 h0 => ?_) fun c3 h0 => ?_)
 ·refine nx 7 rfl (fB [12] h0 rfl (fun c4 h0 => ?_) fun c4 h0 => ?_)
  ·exact nx 6 rfl (mQ (oi h0) rfl (sr))
  exact nx 7 rfl (mQ (oi h0) rfl (sr))
 refine nx 6 rfl (fD [13, 14] h0 rfl (fun c5 h0 => ?_) fun c5 h0 => ?_)
 ·exact nx 6 rfl (mQ (oi h0) rfl (sr))
 refine nx 6 rfl (fD [15, 16] h0 rfl (fun c6 h0 => ?_) fun c6 h0 => ?_)
 ·exact nx 6 rfl (mQ (oi h0) rfl (sr))
 exact nx 7 rfl (mQ (oi h0) rfl (sr))

def explain_place (addr_0 : Bytes) (deposed_1 : Bytes) : Option Bytes :=
 if deposed_1 = ([] : Bytes) then
  some addr_0
 else
  ck (addr_0.length + ([32, 40, 100, 101, 112, 111, 115, 101, 100, 32] : Bytes).length ≤ 9223372036854775807) <|
  ck ((addr_0 ++ ([32, 40, 100, 101, 112, 111, 115, 101, 100, 32] : Bytes)).length + deposed_1.length ≤ 9223372036854775807) <|
  ck (((addr_0 ++ ([32, 40, 100, 101, 112, 111, 115, 101, 100, 32] : Bytes)) ++ deposed_1).length + ([41] : Bytes).length ≤ 9223372036854775807) <|
  some (((addr_0 ++ ([32, 40, 100, 101, 112, 111, 115, 101, 100, 32] : Bytes)) ++ deposed_1) ++ ([41] : Bytes))

set_option maxHeartbeats 4000000 in
theorem explain_place_ok (addr_0 : Bytes) (deposed_1 : Bytes) (r : Bytes) (h0 : explain_place addr_0 deposed_1 = some r) : PCalls Tryz.prog 27 [eS addr_0, eS deposed_1] (· = .p (eS r)) := by
 unfold explain_place at h0
 refine pbodyA good Tryz.func27 rfl rfl rfl fun w0 => mP (fun v : Bytes => .p (eS v)) ?_
 refine nx 8 rfl (oS rfl rfl ?_)
 refine nx 1 rfl (fN [6] h0 rfl (fun c1 h0 => ?_) fun c1 h0 => ?_)
 ·exact nx 8 rfl (mQ (oi h0) rfl (sr))
 refine nx 4 rfl (oC h0 rfl fun hk2 h0 => ?_)
 refine nx 1 rfl (oC h0 rfl fun hk3 h0 => ?_)
 exact oC h0 rfl fun hk4 h0 => nx 3 rfl (mQ (oi h0) rfl (sr))

def cmp_isNaN_string (x_0 : Bytes) : Option Bool :=
 some (!decide (x_0 = x_0))

set_option maxHeartbeats 4000000 in
theorem cmp_isNaN_string_ok (x_0 : Bytes) (r : Bool) (h0 : cmp_isNaN_string x_0 = some r) : PCalls Tryz.prog 152 [eS x_0] (· = .p (eB r)) := by
 unfold cmp_isNaN_string at h0
 refine pbodyA good Tryz.func152 rfl rfl rfl fun w0 => mP (fun v : Bool => .p (eB v)) ?_
 refine nx 8 rfl (oS rfl rfl ?_)
 exact nx 3 rfl (mQ (oi h0) rfl (sr))

def cmp_Less_string (x_0 : Bytes) (y_1 : Bytes) : Option Bool :=
 (
   (cmp_isNaN_string x_0).bind fun r1 =>
   if r1 = true then
    (cmp_isNaN_string y_1).bind fun r4 =>
    if (!r4) = true then
     some true
    else
     some (Op.bytesLess x_0 y_1)
   else
    some (Op.bytesLess x_0 y_1)
  : Option Bool).bind fun t7 =>
 some t7

set_option maxHeartbeats 4000000 in
theorem cmp_Less_string_ok (x_0 : Bytes) (y_1 : Bytes) (r : Bool) (h0 : cmp_Less_string x_0 y_1 = some r) : PCalls Tryz.prog 120 [eS x_0, eS y_1] (· = .p (eB r)) := by
 unfold cmp_Less_string at h0
 refine pbodyA good Tryz.func120 rfl rfl rfl fun w0 => mP (fun v : Bool => .p (eB v)) ?_
 refine nx 5 rfl (bd h0 fun o9 h1 h0 => ?_)
 refine kN o9 (fun v10 => ⟨[(4, .p (eB v10))], []⟩) ?_ ?_
 ·exact nx 2 rfl (mQ (oi h0) rfl (sr))
 refine nx 2 rfl (bd h1 fun r1 e2 h1 => ?_)
 refine oK (cmp_isNaN_string_ok x_0 _ e2) rfl ⟨sr, trivial⟩ Tryz.call152 rfl (nx 1 rfl ?_)
 refine fB [6, 7] h1 rfl (fun c3 h1 => ?_) fun c3 h1 => ?_
 ·refine nx 1 rfl (bd h1 fun r4 e5 h1 => ?_)
  refine oK (cmp_isNaN_string_ok y_1 _ e5) rfl ⟨sr, trivial⟩ Tryz.call152 rfl (nx 3 rfl ?_)
  refine fB [10, 11, 12] h1 rfl (fun c6 h1 => ?_) fun c6 h1 => ?_
  ·exact nx 6 rfl (eX _ (oi h1).symm (gE rfl rfl))
  refine nx 2 rfl (oS rfl rfl ?_)
  exact nx 3 rfl (eX _ (oi h1).symm (gE rfl rfl))
 refine nx 7 rfl (oS rfl rfl ?_)
 exact nx 3 rfl (eX _ (oi h1).symm (gE rfl rfl))

def slices_isNaN_string (x_0 : Bytes) : Option Bool :=
 some (!decide (x_0 = x_0))

set_option maxHeartbeats 4000000 in
theorem slices_isNaN_string_ok (x_0 : Bytes) (r : Bool) (h0 : slices_isNaN_string x_0 = some r) : PCalls Tryz.prog 121 [eS x_0] (· = .p (eB r)) := by
 unfold slices_isNaN_string at h0
 refine pbodyA good Tryz.func121 rfl rfl rfl fun w0 => mP (fun v : Bool => .p (eB v)) ?_
 refine nx 8 rfl (oS rfl rfl ?_)
 exact nx 3 rfl (mQ (oi h0) rfl (sr))

def slices_BinarySearch_string_string_l1 (x_0 : List Bytes) (target_1 : Bytes) : Nat → Int → Int → Option Int
 | 0, _, _ => none
 | m + 1, i14, j15 =>
 if i14 < j15 then
  (
    ck (inR (i14 + j15)) <|
    ck ((0 : Int) ≤ 1) <|
    ck (inR (iShr .u64 (IntKind.wrap .u64 (i14 + j15)) 1)) <|
    ck ((0 : Int) ≤ iShr .u64 (IntKind.wrap .u64 (i14 + j15)) 1 ∧ iShr .u64 (IntKind.wrap .u64 (i14 + j15)) 1 < (x_0.length : Int)) <|
    (cmp_Less_string (lat x_0 (iShr .u64 (IntKind.wrap .u64 (i14 + j15)) 1)) target_1).bind fun r21 =>
    if r21 = true then
     ck (inR ((iShr .u64 (IntKind.wrap .u64 (i14 + j15)) 1) + 1)) <|
     some ((iShr .u64 (IntKind.wrap .u64 (i14 + j15)) 1) + 1, j15)
    else
     some (i14, iShr .u64 (IntKind.wrap .u64 (i14 + j15)) 1)
   : Option (Int × Int)).bind fun q41 =>
  slices_BinarySearch_string_string_l1 x_0 target_1 m q41.1 q41.2
 else
  some i14

def slices_BinarySearch_string_string (n : Nat) (x_0 : List Bytes) (target_1 : Bytes) : Option (Int × Bool) :=
 (slices_BinarySearch_string_string_l1 x_0 target_1 n 0 (x_0.length : Int)).bind fun i29 =>
 (
   if i29 < (x_0.length : Int) then
    ck ((0 : Int) ≤ i29 ∧ i29 < (x_0.length : Int)) <|
    if lat x_0 i29 = target_1 then
     some true
    else
     ck ((0 : Int) ≤ i29 ∧ i29 < (x_0.length : Int)) <|
     (slices_isNaN_string (lat x_0 i29)).bind fun r34 =>
     if r34 = true then
      (slices_isNaN_string target_1).bind fun r37 =>
      some r37
     else
      some false
   else
    some false
  : Option Bool).bind fun t39 =>
 some (i29, t39)

set_option maxHeartbeats 4000000 in
theorem slices_BinarySearch_string_string_ok (n : Nat) (x_0 : List Bytes) (target_1 : Bytes) (r : Int × Bool) (h0 : slices_BinarySearch_string_string n x_0 target_1 = some r) : PCalls Tryz.prog 93 [eL eS x_0, eS target_1] (· = .tuple [.p (eI r.1), .p (eB r.2)]) := by
 unfold slices_BinarySearch_string_string at h0
 refine pbodyA good Tryz.func93 rfl rfl rfl fun w0 => mP (fun v : Int × Bool => .tuple [.p (eI v.1), .p (eB v.2)]) ?_
 refine nx 8 rfl (oLl (f := eS) rfl rfl ?_)
 refine nx 10 rfl (bd h0 fun o43 h1 h0 => ?_)
 refine kE 0 o43 (fun v44 => ⟨[(0, .p (eL eS x_0)), (1, .p (eS target_1)), (6, .p (eI (x_0.length : Int))), (7, .p (eI v44))], []⟩) ?_ ?_
 ·refine nx 2 rfl (bd h0 fun o45 h1 h0 => ?_)
  refine kN o45 (fun v46 => ⟨[(4, .p (eI o43)), (5, .p (eB v46))], []⟩) ?_ ?_
  ·exact nx 2 rfl (mQ (oi h0) rfl (sub_tuple ⟨sr, sr, trivial⟩))
  refine nx 6 rfl (fD [34, 35] h1 rfl (fun c30 h1 => ?_) fun c30 h1 => ?_)
  ·refine nx 2 rfl (oE h1 (fun _ => rfl) rfl rfl (fun _ => rfl) fun hk31 h1 => ?_)
   refine nx 2 rfl (oS rfl rfl ?_)
   refine nx 1 rfl (fD [41, 42] h1 rfl (fun c32 h1 => ?_) fun c32 h1 => ?_)
   ·exact nx 14 rfl (eX _ (oi h1).symm (gE rfl rfl))
   refine nx 2 rfl (oE h1 (fun _ => rfl) rfl rfl (fun _ => rfl) fun hk33 h1 => ?_)
   refine nx 1 rfl (bd h1 fun r34 e35 h1 => ?_)
   refine oK (slices_isNaN_string_ok (lat x_0 o43) _ e35) rfl ⟨sr, trivial⟩ Tryz.call121 rfl (nx 1 rfl ?_)
   refine fB [47, 48] h1 rfl (fun c36 h1 => ?_) fun c36 h1 => ?_
   ·refine nx 1 rfl (bd h1 fun r37 e38 h1 => ?_)
    refine oK (slices_isNaN_string_ok target_1 _ e38) rfl ⟨sr, trivial⟩ Tryz.call121 rfl (nx 6 rfl ?_)
    exact eX _ (oi h1).symm (gE rfl rfl)
   exact nx 8 rfl (eX _ (oi h1).symm (gE rfl rfl))
  exact nx 21 rfl (eX _ (oi h1).symm (gE rfl rfl))
 refine lG (fun (q47 : Int × Int) => ⟨[(0, .p (eL eS x_0)), (1, .p (eS target_1)), (6, .p (eI (x_0.length : Int))), (7, .p (eI q47.1)), (8, .p (eI q47.2))], []⟩) (fun m (q47 : Int × Int) => slices_BinarySearch_string_string_l1 x_0 target_1 m q47.1 q47.2) (fun _ => rfl) (0, (x_0.length : Int)) h1 (gE rfl rfl) ?_
 rintro m ⟨i14, j15⟩ h1
 replace h1 : slices_BinarySearch_string_string_l1 x_0 target_1 (m + 1) i14 j15 = some o43 := h1
 rw [slices_BinarySearch_string_string_l1] at h1
 refine nx 7 rfl (fD [15] h1 rfl (fun c16 h1 => ?_) fun c16 h1 => ?_)
 ·refine nx 2 rfl (bd h1 fun o48 h2 h1 => ?_)
  refine kN o48 (fun v49 => ⟨[(0, .p (eL eS x_0)), (1, .p (eS target_1)), (6, .p (eI (x_0.length : Int))), (7, .p (eI v49.1)), (8, .p (eI v49.2))], []⟩) ?_ ?_
  ·exact nx 1 rfl (eX (o48.1, o48.2) h1 (gE rfl rfl))
  refine nx 5 rfl (oA h2 rfl rfl fun hk17 h2 => ?_)
  refine nx 1 rfl (cc' h2 fun hk18 h2 => ?_)
  refine mO rfl (ok_sh rfl rfl rfl rfl rfl rfl hk18 ?_)
  refine cc' h2 fun hk19 h2 => mO rfl (ok_convInt rfl rfl rfl rfl rfl rfl rfl rfl (wrap_in hk19) ?_)
  refine nx 6 rfl (oE h2 (fun _ => rfl) rfl rfl (fun _ => rfl) fun hk20 h2 => ?_)
  refine nx 2 rfl (bd h2 fun r21 e22 h2 => ?_)
  refine oK (cmp_Less_string_ok (lat x_0 (iShr .u64 (IntKind.wrap .u64 (i14 + j15)) 1)) target_1 _ e22) rfl ⟨sr, sr, trivial⟩ Tryz.call120 rfl (nx 1 rfl ?_)
  refine fB [27] h2 rfl (fun c23 h2 => ?_) fun c23 h2 => ?_
  ·refine nx 3 rfl (oA h2 rfl rfl fun hk24 h2 => ?_)
   exact nx 2 rfl (eX _ (oi h2).symm (gE rfl rfl))
  exact nx 5 rfl (eX _ (oi h2).symm (gE rfl rfl))
 exact nx 2 rfl (eXi _ (oi h1).symm (gE rfl rfl))

def value_copies_l1 (r_value_copied : TValue → Option TValue) (l_0 : List TValue) : Nat → (List TValue) → Int → Option (List TValue)
 | 0, _, _ => none
 | m + 1, out12, t13 =>
 if t13 < (l_0.length : Int) then
  ck ((0 : Int) ≤ t13 ∧ t13 < (l_0.length : Int)) <|
  (r_value_copied (lat l_0 t13)).bind fun r16 =>
  ck ((out12.length + [(TValue.mk r16.fKind r16.fNum r16.fStr r16.fItems r16.fKeys)].length) * 80 ≤ 140737488355328) <|
  ck (inR (t13 + 1)) <|
  value_copies_l1 r_value_copied l_0 m (out12 ++ [(TValue.mk r16.fKind r16.fNum r16.fStr r16.fItems r16.fKeys)]) (t13 + 1)
 else
  some out12

mutual
def value_copied : Nat → TValue → Option TValue
 | 0, _ => none
 | n + 1, v_0 =>
 ck (v_0.fKeys.length * 16 ≤ 140737488355328) <|
 ((value_copies n) v_0.fItems).bind fun r2 =>
 some (TValue.mk v_0.fKind v_0.fNum v_0.fStr r2 v_0.fKeys)
def value_copies : Nat → (List TValue) → Option (List TValue)
 | 0, _ => none
 | n + 1, l_0 =>
 if (l_0.length : Int) = 0 then
  some []
 else
  ck ((0 : Int) ≤ (l_0.length : Int) ∧ (l_0.length : Int) ≤ 9223372036854775807 ∧ (80 : Int) * (l_0.length : Int) ≤ 281474976710656) <|
  (value_copies_l1 (value_copied n) l_0 n ([] : List TValue) 0).bind fun out23 =>
  some out23
end

set_option maxHeartbeats 4000000 in
theorem value_copied_all (n : Nat) : (∀ (v_0 : TValue) (r : TValue), value_copied n v_0 = some r → OCalls Tryz.prog 96 [.p (.agg (TValue.cs v_0))] [] (fun x y => x = .agg [.p (eI r.fKind), .p (eI r.fNum), .p (eS r.fStr), .stk 2000000 5 (r.fItems.map eTValue), .vec 2000001 1 0 (r.fKeys.map eS)] ∧ y = [])) ∧ (∀ (l_0 : List TValue) (r : (List TValue)), value_copies n l_0 = some r → OCalls Tryz.prog 126 [.p (eL eTValue l_0)] [] (fun x y => x = .stk 2000000 5 (r.map eTValue) ∧ y = [])) := by
 induction n with
 | zero => exact ⟨(by intro v_0 r h0; cases h0), (by intro l_0 r h0; cases h0)⟩
 | succ n ih =>
 obtain ⟨ih_value_copied_ok, ih_value_copies_ok⟩ := ih
 refine ⟨?_, ?_⟩
 ·skip
  intro v_0 r h0
  rw [value_copied] at h0
  refine obodyG good [800000, 800001] [] Tryz.func96 rfl rfl rfl rfl rfl fun w0 F => mPo (fun v : TValue => .agg [.p (eI v.fKind), .p (eI v.fNum), .p (eS v.fStr), .stk 2000000 5 (v.fItems.map eTValue), .vec 2000001 1 0 (v.fKeys.map eS)]) (fun v => []) ?_
  refine nx 9 rfl (cc' h0 fun hk1 h0 => ?_)
  refine mO rfl (op_callV [] [] 101000 101001 (slices_Clone_string_string_vec v_0.fKeys hk1) rfl rfl rfl rfl rfl ⟨sr, trivial⟩ rfl rfl trivial rfl rfl rfl rfl rfl rfl rfl rfl Tryz.call116 rfl rfl ?_)
  refine nx 7 rfl (bd h0 fun r2 e3 h0 => ?_)
  refine mO rfl (op_callV [] [] 102000 102001 (ih_value_copies_ok v_0.fItems _ e3) rfl rfl rfl rfl rfl ⟨sr, trivial⟩ rfl rfl trivial rfl rfl rfl rfl rfl rfl rfl rfl Tryz.call126 rfl rfl ?_)
  exact nx 9 rfl (mQo (oi h0) (ghost_trans (ghost_ren 102000 800000 rfl rfl rfl rfl rfl) (ghost_trans (ghost_ren 101000 800001 rfl rfl rfl rfl rfl) (ghost_refl _))) rfl rfl rfl rfl (sr) trivial)
 ·skip
  intro l_0 r h0
  rw [value_copies] at h0
  refine obodyG good [800000] [] Tryz.func126 rfl rfl rfl rfl rfl fun w0 F => mPo (fun v : (List TValue) => .stk 2000000 5 (v.map eTValue)) (fun v => []) ?_
  refine nx 8 rfl (oLl (f := eTValue) rfl rfl ?_)
  refine nx 2 rfl (fD [8] h0 rfl (fun c1 h0 => ?_) fun c1 h0 => ?_)
  ·exact nx 6 rfl (mQo (oi h0) (ghost_refl _) rfl rfl rfl rfl (AV.sub_nilstk _ _) trivial)
  refine nx 5 rfl (oLl (f := eTValue) rfl rfl ?_)
  refine cc' h0 fun hk2 h0 => mO rfl (op_makeSm rfl rfl rfl rfl rfl rfl rfl rfl hk2 rfl rfl ?_)
  refine nx 6 rfl (oLl (f := eTValue) rfl rfl ?_)
  refine nx 3 rfl (bd h0 fun o25 h1 h0 => ?_)
  refine kE 0 o25 (fun v26 => ⟨[(3, .stk 11 5 (v26.map eTValue))], []⟩) ?_ ?_
  ·exact nx 7 rfl (mQo (oi h0) (ghost_trans (ghost_ren 11 800000 rfl rfl rfl rfl rfl) (ghost_refl _)) rfl rfl rfl rfl (sr) trivial)
  refine lG (fun (q27 : (List TValue) × Int) => ⟨[(3, .stk 11 5 (q27.1.map eTValue)), (12, .p (eL eTValue l_0)), (13, .p (eI (l_0.length : Int))), (14, .p (eI q27.2))], []⟩) (fun m (q27 : (List TValue) × Int) => value_copies_l1 (value_copied n) l_0 m q27.1 q27.2) (fun _ => rfl) (([] : List TValue), 0) h1 (gE rfl rfl) ?_
  rintro m ⟨out12, t13⟩ h1
  replace h1 : value_copies_l1 (value_copied n) l_0 (m + 1) out12 t13 = some o25 := h1
  rw [value_copies_l1] at h1
  refine nx 5 rfl (fD [15] h1 rfl (fun c14 h1 => ?_) fun c14 h1 => ?_)
  ·refine nx 6 rfl (oE h1 TValue.cells_eq rfl rfl (fun _ => rfl) fun hk15 h1 => ?_)
   refine nx 7 rfl (bd h1 fun r16 e17 h1 => ?_)
   refine mO rfl (op_ghost (fun _ hq => op_callV [] [] 102000 102002 (ih_value_copied_ok (lat l_0 t13) _ e17) rfl rfl rfl rfl rfl ⟨sr, trivial⟩ rfl rfl trivial rfl rfl rfl rfl rfl rfl rfl rfl Tryz.call96 rfl rfl hq) (ghost_stl 102000 rfl rfl rfl) ?_)
   refine mG (ghost_slot 20 (y := .p (.agg (TValue.cs (TValue.mk r16.fKind r16.fNum r16.fStr r16.fItems r16.fKeys)))) rfl (sub_aggs ⟨sr, sr, sr, sr, AV.sub_vec _ _ _ _, trivial⟩)) (mO rfl (op_bslice eTValue [(TValue.mk r16.fKind r16.fNum r16.fStr r16.fItems r16.fKeys)] rfl rfl rfl rfl rfl rfl rfl rfl rfl rfl rfl rfl rfl (by first | rfl | (simp only [List.map_cons, List.map_nil, TValue.agg_eq]; done) | (simp only [List.map_cons, List.map_nil, TValue.agg_eq]; rfl)) ?_))
   refine cc' h1 fun hk18 h1 => mO rfl (op_appSm eTValue out12 [(TValue.mk r16.fKind r16.fNum r16.fStr r16.fItems r16.fKeys)] rfl rfl rfl rfl rfl rfl rfl rfl rfl rfl rfl rfl (fun x => congrArg List.length (TValue.cells_eq x)) (Nat.zero_lt_succ _) rfl rfl rfl rfl hk18 rfl rfl ?_)
   refine nx 3 rfl (oA h1 rfl rfl fun hk20 h1 => ?_)
   exact nx 2 rfl (eX (out12 ++ [(TValue.mk r16.fKind r16.fNum r16.fStr r16.fItems r16.fKeys)], t13 + 1) h1 (gE rfl rfl))
  exact nx 2 rfl (eXi _ (oi h1).symm (gE rfl rfl))

theorem value_copied_ok (n : Nat) : ∀ (v_0 : TValue) (r : TValue), value_copied n v_0 = some r → OCalls Tryz.prog 96 [.p (.agg (TValue.cs v_0))] [] (fun x y => x = .agg [.p (eI r.fKind), .p (eI r.fNum), .p (eS r.fStr), .stk 2000000 5 (r.fItems.map eTValue), .vec 2000001 1 0 (r.fKeys.map eS)] ∧ y = []) := (value_copied_all n).1

theorem value_copies_ok (n : Nat) : ∀ (l_0 : List TValue) (r : (List TValue)), value_copies n l_0 = some r → OCalls Tryz.prog 126 [.p (eL eTValue l_0)] [] (fun x y => x = .stk 2000000 5 (r.map eTValue) ∧ y = []) := (value_copied_all n).2

def value_Get (n : Nat) (v_0 : TValue) (key_1 : Bytes) : Option (TValue × Bool) :=
 (slices_BinarySearch_string_string n v_0.fKeys key_1).bind fun r1 =>
 (
   if v_0.fKind = 5 then
    if (!r1.2) = true then
     some true
    else
     some (decide ((v_0.fItems.length : Int) ≤ r1.1))
   else
    some true
  : Option Bool).bind fun t5 =>
 if t5 = true then
  some ((TValue.mk 0 0 ([] : Bytes) [] []), false)
 else
  ck ((0 : Int) ≤ r1.1 ∧ r1.1 < (v_0.fItems.length : Int)) <|
  (value_copied n (lat v_0.fItems r1.1)).bind fun r8 =>
  some ((TValue.mk r8.fKind r8.fNum r8.fStr r8.fItems r8.fKeys), true)

set_option maxHeartbeats 4000000 in
theorem value_Get_ok (n : Nat) (v_0 : TValue) (key_1 : Bytes) (r : TValue × Bool) (h0 : value_Get n v_0 key_1 = some r) : PCalls Tryz.prog 59 [.agg (TValue.cs v_0), eS key_1] (· = .tuple [.p (.agg (TValue.cs r.1)), .p (eB r.2)]) := by
 unfold value_Get at h0
 refine pbodyA good Tryz.func59 rfl rfl rfl fun w0 => mP (fun v : TValue × Bool => .tuple [.p (.agg (TValue.cs v.1)), .p (eB v.2)]) ?_
 refine nx 11 rfl (bd h0 fun r1 e2 h0 => ?_)
 refine oK (slices_BinarySearch_string_string_ok _ v_0.fKeys key_1 _ e2) rfl ⟨sr, sr, trivial⟩ Tryz.call93 rfl (nx 8 rfl ?_)
 refine bd h0 fun o11 h1 h0 => kN o11 (fun v12 => ⟨[(2, .ptr 2 0), (4, .ptr 4 0), (6, .p (eI r1.1)), (28, .p (eB v12))], [(2, (TValue.cs v_0).map .p), (4, [.p (eI 0), .p (eI 0), .p (eS ([] : Bytes)), .p (.val (.slice none 0 0)), .p (.val (.slice none 0 0))])]⟩) ?_ ?_
 ·refine nx 1 rfl (fB [28] h0 rfl (fun c6 h0 => ?_) fun c6 h0 => ?_)
  ·exact nx 8 rfl (mQ (oi h0) rfl (sub_tuple ⟨sub_cells ⟨.inl rfl, .inl rfl, .inl rfl, .inr ⟨rfl, rfl⟩, .inr ⟨rfl, rfl⟩, trivial⟩, sr, trivial⟩))
  refine nx 7 rfl (oE h0 TValue.cells_eq rfl rfl (fun _ => rfl) fun hk7 h0 => ?_)
  refine nx 1 rfl (bd h0 fun r8 e9 h0 => ?_)
  refine mO rfl (op_ghost (fun _ hq => op_callV [] [] 101000 101002 (value_copied_ok _ (lat v_0.fItems r1.1) _ e9) rfl rfl rfl rfl rfl ⟨sr, trivial⟩ rfl rfl trivial rfl rfl rfl rfl rfl rfl rfl rfl Tryz.call96 rfl rfl hq) (ghost_stl 101000 rfl rfl rfl) ?_)
  exact nx 4 rfl (mQ (oi h0) rfl (sub_tuple ⟨sub_aggs ⟨sr, sr, sr, sr, AV.sub_vec _ _ _ _, trivial⟩, sr, trivial⟩))
 refine nx 5 rfl (fN [17, 18] h1 rfl (fun c3 h1 => ?_) fun c3 h1 => ?_)
 ·refine nx 4 rfl (fB [20, 21, 22] h1 rfl (fun c4 h1 => ?_) fun c4 h1 => ?_)
  ·exact nx 7 rfl (eX _ (oi h1).symm (gE rfl rfl))
  refine nx 3 rfl (oLl (f := eTValue) rfl rfl ?_)
  exact nx 3 rfl (eX _ (oi h1).symm (gE rfl rfl))
 exact nx 11 rfl (eX _ (oi h1).symm (gE rfl rfl))

def schema_copied_l1 (r_schema_copied : TValue → Option TValue) : Nat → Option Unit
 | 0 => none
 | m + 1 =>
 if 0 < (([] : List TValue).length : Int) then
  ck ((0 : Int) ≤ 0 ∧ 0 < (([] : List TValue).length : Int)) <|
  (r_schema_copied (lat ([] : List TValue) 0)).bind fun r6 =>
  ck ((0 : Int) ≤ 0 ∧ 0 < (([] : List TValue).length : Int)) <|
  none
 else
  some ()

def schema_copied_l2 (r_schema_copied : TValue → Option TValue) (v_0 : TValue) : Nat → Int → (List TValue) → Option (List TValue)
 | 0, _, _ => none
 | m + 1, t17, l18 =>
 if t17 < (v_0.fItems.length : Int) then
  ck ((0 : Int) ≤ t17 ∧ t17 < (l18.length : Int)) <|
  (r_schema_copied (lat l18 t17)).bind fun r21 =>
  ck ((0 : Int) ≤ t17 ∧ t17 < (l18.length : Int)) <|
  ck (inR (t17 + 1)) <|
  schema_copied_l2 r_schema_copied v_0 m (t17 + 1) (l18.set t17.toNat r21)
 else
  some l18

def schema_copied : Nat → TValue → Option TValue
 | 0, _ => none
 | n + 1, v_0 =>
 ck (v_0.fKeys.length * 16 ≤ 140737488355328) <|
 if v_0.fItems.isEmpty = true then
  (schema_copied_l1 (schema_copied n) n ).bind fun q28 =>
  some (TValue.mk v_0.fKind v_0.fNum v_0.fStr ([] : List TValue) v_0.fKeys)
 else
  ck (v_0.fItems.length * 80 ≤ 140737488355328) <|
  (schema_copied_l2 (schema_copied n) v_0 n 0 v_0.fItems).bind fun l27 =>
  some (TValue.mk v_0.fKind v_0.fNum v_0.fStr l27 v_0.fKeys)

set_option maxHeartbeats 4000000 in
theorem schema_copied_ok (n : Nat) : ∀ (v_0 : TValue) (r : TValue), schema_copied n v_0 = some r → PCalls Tryz.prog 89 [.agg (TValue.cs v_0)] (· = .p (.agg (TValue.cs r))) := by
 induction n with
 | zero => intro v_0 r h0; cases h0
 | succ n ih =>
 have ih_schema_copied_ok := ih
 intro v_0 r h0
 rw [schema_copied] at h0
 refine pbodyA good Tryz.func89 rfl rfl rfl fun w0 => mP (fun v : TValue => .p (.agg (TValue.cs v))) ?_
 refine nx 9 rfl (cc' h0 fun hk1 h0 => ?_)
 refine oK (slices_Clone_string_string_ok v_0.fKeys hk1) rfl ⟨sr, trivial⟩ Tryz.call116 rfl (nx 7 rfl ?_)
 refine any_byB (b := v_0.fItems.isEmpty) (fun c2 => ?_) (fun c2 => ?_)
 ·replace h0 := if_t c2 h0
  refine mO rfl (ok_callP (slices_Clone_api_Value_api_Value_nil v_0.fItems c2) rfl rfl rfl rfl ⟨sr, trivial⟩ Tryz.call117 rfl ?_)
  refine nx 8 rfl (oLl (f := eTValue) rfl rfl ?_)
  refine nx 3 rfl (bd h0 fun o30 h1 h0 => ?_)
  refine kE 0 o30 (fun v31 => ⟨[(1, .ptr 1 0), (2, .ptr 2 0)], [(1, [.p (eI v_0.fKind), .p (eI v_0.fNum), .p (eS v_0.fStr), .p (eL eTValue ([] : List TValue)), .p (eL eS v_0.fKeys)]), (2, [.p (eI 0), .p (eI 0), .p (eS ([] : Bytes)), .p (.val (.slice none 0 0)), .p (.val (.slice none 0 0))])]⟩) ?_ ?_
  ·exact nx 7 rfl (mQ (oi h0) rfl (sr))
  refine lG (fun (q32 : Unit) => ⟨[(1, .ptr 1 0), (2, .ptr 2 0), (14, .p (eI (([] : List TValue).length : Int))), (15, .p (eI 0))], [(1, [.p (eI v_0.fKind), .p (eI v_0.fNum), .p (eS v_0.fStr), .p (eL eTValue ([] : List TValue)), .p (eL eS v_0.fKeys)]), (2, [.p (eI 0), .p (eI 0), .p (eS ([] : Bytes)), .p (.val (.slice none 0 0)), .p (.val (.slice none 0 0))])]⟩) (fun m (q32 : Unit) => schema_copied_l1 (schema_copied n) m ) (fun _ => rfl) () h1 (gE rfl rfl) ?_
  rintro m _ h1
  replace h1 : schema_copied_l1 (schema_copied n) (m + 1)  = some o30 := h1
  rw [schema_copied_l1] at h1
  refine nx 5 rfl (fD [16] h1 rfl (fun c4 h1 => ?_) fun c4 h1 => ?_)
  ·refine nx 9 rfl (cc' h1 fun hk5 h1 => ?_)
   refine bd h1 fun r6 e7 h1 => cc' h1 fun hk8 h1 => ?_
   cases h1
  exact nx 2 rfl (eXi _ (oi h1).symm (gE rfl rfl))
 replace h0 := if_bf c2 h0
 refine cc' h0 fun hk3 h0 => mO rfl (op_callV [] [] 101000 101001 (slices_Clone_api_Value_api_Value_row v_0.fItems c2 hk3) rfl rfl rfl rfl rfl ⟨sr, trivial⟩ rfl rfl trivial rfl rfl rfl rfl rfl rfl rfl rfl Tryz.call117 rfl (mapO_cons rfl (mapA_go_p _) rfl) ?_)
 refine nx 12 rfl (bd h0 fun o33 h1 h0 => ?_)
 refine kE 0 o33 (fun v34 => ⟨[(1, .ptr 1 0), (2, .ptr 2 0)], [(1, [.p (eI v_0.fKind), .p (eI v_0.fNum), .p (eS v_0.fStr), .arr 101000 5 0 v34.length, .p (eL eS v_0.fKeys)]), (2, [.p (eI 0), .p (eI 0), .p (eS ([] : Bytes)), .p (.val (.slice none 0 0)), .p (.val (.slice none 0 0))]), (101000, rowC eTValue v34)]⟩) ?_ ?_
 ·refine nx 3 rfl (mG (ghost_freezeA (sl' := [(1, .ptr 1 0), (2, .ptr 2 0)]) (ob' := [(1, [.p (eI v_0.fKind), .p (eI v_0.fNum), .p (eS v_0.fStr), .p (eL eTValue o33), .p (eL eS v_0.fKeys)]), (2, [.p (eI 0), .p (eI 0), .p (eS ([] : Bytes)), .p (.val (.slice none 0 0)), .p (.val (.slice none 0 0))])]) 101000 5 eTValue o33 rfl rfl rfl (fun x => ⟨congrArg List.length (TValue.cells_eq x), by rw [TValue.cells_eq]; rfl⟩) ⟨⟨_, rfl, .inl rfl⟩, ⟨_, rfl, .inl rfl⟩, trivial⟩ ⟨⟨rfl, _, rfl, ⟨.inl rfl, .inl rfl, .inl rfl, .inr ⟨(by simp), rfl⟩, .inl rfl, trivial⟩⟩, ⟨rfl, _, rfl, ⟨.inl rfl, .inl rfl, .inl rfl, .inl rfl, .inl rfl, trivial⟩⟩, trivial⟩) ?_)
  exact nx 4 rfl (mQ (oi h0) rfl (sr))
 refine lG (fun (q35 : Int × (List TValue)) => ⟨[(1, .ptr 1 0), (2, .ptr 2 0), (14, .p (eI (v_0.fItems.length : Int))), (15, .p (eI q35.1))], [(1, [.p (eI v_0.fKind), .p (eI v_0.fNum), .p (eS v_0.fStr), .arr 101000 5 0 q35.2.length, .p (eL eS v_0.fKeys)]), (2, [.p (eI 0), .p (eI 0), .p (eS ([] : Bytes)), .p (.val (.slice none 0 0)), .p (.val (.slice none 0 0))]), (101000, rowC eTValue q35.2)]⟩) (fun m (q35 : Int × (List TValue)) => schema_copied_l2 (schema_copied n) v_0 m q35.1 q35.2) (fun _ => rfl) (0, v_0.fItems) h1 (ghost_le (le_mk ⟨er rfl, er rfl, er rfl, er rfl, trivial⟩ ⟨⟨_, rfl, ⟨sr, sr, sr, AV.sub_of_eq (congrArg (AV.arr 101000 5 0) (by simp)), sr, trivial⟩⟩, ⟨_, rfl, ⟨sr, sr, sr, sr, sr, trivial⟩⟩, ⟨_, rfl, subL_refl _⟩, trivial⟩)) ?_
 rintro m ⟨t17, l18⟩ h1
 replace h1 : schema_copied_l2 (schema_copied n) v_0 (m + 1) t17 l18 = some o33 := h1
 rw [schema_copied_l2] at h1
 refine nx 5 rfl (fD [16] h1 rfl (fun c19 h1 => ?_) fun c19 h1 => ?_)
 ·refine nx 9 rfl (cc' h1 fun hk20 h1 => ?_)
  refine bd h1 fun r21 e22 h1 => cc' h1 fun hk23 h1 => mG (ghost_le (t := ⟨[(1, .ptr 1 0), (2, .ptr 2 0), (3, .p (eI t17)), (14, .p (eI (v_0.fItems.length : Int))), (15, .p (eI t17))], [(1, [.p (eI v_0.fKind), .p (eI v_0.fNum), .p (eS v_0.fStr), .arr 101000 5 0 l18.length, .p (eL eS v_0.fKeys)]), (2, [.p (eI 0), .p (eI 0), .p (eS ([] : Bytes)), .p (.val (.slice none 0 0)), .p (.val (.slice none 0 0))]), (101000, rowC eTValue l18)]⟩) (le_mk ⟨er rfl, er rfl, er rfl, er rfl, er rfl, trivial⟩ ⟨⟨_, rfl, ⟨sr, sr, sr, AV.sub_of_eq (congrArg (AV.arr 101000 5 0) (by simp)), sr, trivial⟩⟩, ⟨_, rfl, ⟨sr, sr, sr, sr, sr, trivial⟩⟩, ⟨_, rfl, subL_refl _⟩, trivial⟩)) (mS ⟨1, [10], (fun _ => .none), (fun _ => [(1, .ptr 1 0), (2, .ptr 2 0), (3, .p (eI t17)), (14, .p (eI (v_0.fItems.length : Int))), (15, .p (eI t17))]), (by2 ([(1, [.p (eI v_0.fKind), .p (eI v_0.fNum), .p (eS v_0.fStr), .arr 101000 5 0 l18.length, .p (eL eS v_0.fKeys)]), (2, [.p (eI 0), .p (eI 0), .p (eS ([] : Bytes)), .p (.val (.slice none 0 0)), .p (.val (.slice none 0 0))]), (101000, rowC eTValue l18)]) ([(101000, rowC eTValue (l18.set t17.toNat r21)), (1, [.p (eI v_0.fKind), .p (eI v_0.fNum), .p (eS v_0.fStr), .arr 101000 5 0 l18.length, .p (eL eS v_0.fKeys)]), (2, [.p (eI 0), .p (eI 0), .p (eS ([] : Bytes)), .p (.val (.slice none 0 0)), .p (.val (.slice none 0 0))]), (101000, rowC eTValue l18)]))⟩ rfl rfl rfl ⟨rfl, rfl, rfl, rfl, rfl, trivial⟩ (lt1 ⟨rfl, rfl, rfl, rfl, rfl, trivial⟩) rfl rfl rfl rfl ?_)
  refine ds_pure (fun _ => .ptr 1 3) rfl rfl rfl (all2 rfl (fun _ => rfl)) (lt1 rfl) (stg_no rfl (stg_yes [(1, _)] ⟨.inl rfl, trivial⟩ (fun sl hsl K hK => one_op rfl (ok_fieldAddrP rfl rfl rfl rfl rfl rfl rfl rfl (hsl _ _ rfl) hK)) stg_nil)) (ds_pure (fun _ => .arr 101000 5 0 l18.length) rfl rfl rfl (all2 rfl (fun _ => rfl)) (lt1 rfl) (stg_no rfl (stg_yes [(18, _)] ⟨.inr ⟨0, _, rfl, rfl, rfl⟩, trivial⟩ (fun sl hsl K hK => one_op rfl (ok_loadP1 rfl rfl rfl rfl rfl (hsl _ _ rfl) rfl rfl hK)) stg_nil)) ?_)
  refine ds_pure (fun _ => .p (eI t17)) rfl rfl rfl (all2 rfl (fun _ => rfl)) (lt1 rfl) (stg_no rfl (stg_yes [(3, _)] ⟨.inl rfl, trivial⟩ (fun sl hsl K hK => one_op rfl (ok_move rfl rfl rfl (hsl _ _ rfl) hK)) stg_nil)) (ds_pure (fun _ => .ptr 1 3) rfl rfl rfl (all2 rfl (fun _ => rfl)) (lt1 rfl) (stg_no rfl (stg_yes [(1, _)] ⟨.inl rfl, trivial⟩ (fun sl hsl K hK => one_op rfl (ok_fieldAddrP rfl rfl rfl rfl rfl rfl rfl rfl (hsl _ _ rfl) hK)) stg_nil)) ?_)
  refine ds_pure (fun _ => .arr 101000 5 0 l18.length) rfl rfl rfl (all2 rfl (fun _ => rfl)) (lt1 rfl) (stg_no rfl (stg_yes [(21, _)] ⟨.inr ⟨3, _, rfl, rfl, rfl⟩, trivial⟩ (fun sl hsl K hK => one_op rfl (ok_loadP1 rfl rfl rfl rfl rfl (hsl _ _ rfl) rfl rfl hK)) stg_nil)) (ds_pure (fun _ => .p (eI t17)) rfl rfl rfl (all2 rfl (fun _ => rfl)) (lt1 rfl) (stg_no rfl (stg_yes [(3, _)] ⟨.inl rfl, trivial⟩ (fun sl hsl K hK => one_op rfl (ok_move rfl rfl rfl (hsl _ _ rfl) hK)) stg_nil)) ?_)
  refine ds_pure (fun _ => .ptr 101000 (0 + t17.toNat * 5)) rfl rfl rfl (all2 rfl (fun _ => rfl)) (lt1 rfl) (stg_no rfl (stg_yes [(22, _), (23, _)] ⟨.inr ⟨4, _, rfl, rfl, rfl⟩, .inr ⟨5, _, rfl, rfl, rfl⟩, trivial⟩ (fun sl hsl K hK => one_op rfl (ok_indexAddrA rfl rfl rfl rfl rfl rfl (hsl _ _ rfl) (hsl _ _ rfl) rfl hk20 hK)) stg_nil)) (ds_pure (fun _ => .p (.agg (TValue.cs (lat l18 t17)))) rfl rfl rfl (all2 rfl (fun _ => rfl)) (lt1 rfl) (stg_no rfl (stg_yes [(24, _)] ⟨.inr ⟨6, _, rfl, rfl, rfl⟩, trivial⟩ (fun sl hsl K hK => one_op rfl (op_loadRow eTValue TValue.cs l18 rfl rfl rfl rfl rfl (hsl _ _ rfl) rfl rfl rfl hk20 TValue.cells_eq (fun _ => rfl) hK)) stg_nil)) ?_)
  refine ds_pure (fun _ => .p (.agg (TValue.cs r21))) rfl rfl rfl (all2 rfl (fun _ => rfl)) (lt1 rfl) (stg_no rfl (stg_yes [(25, _)] ⟨.inr ⟨7, _, rfl, rfl, rfl⟩, trivial⟩ (fun sl hsl K hK => one_op rfl (ok_callP (ih_schema_copied_ok (lat l18 t17) _ e22) rfl rfl rfl (args_cons (hsl _ _ rfl) args_nil) ⟨sr, trivial⟩ Tryz.call89 rfl hK)) stg_nil)) (ds_pure (fun _ => .ptr 101000 (0 + t17.toNat * 5)) rfl rfl rfl (all2 rfl (fun _ => rfl)) (lt1 rfl) (stg_no rfl (stg_yes [(19, _), (20, _)] ⟨.inr ⟨1, _, rfl, rfl, rfl⟩, .inr ⟨2, _, rfl, rfl, rfl⟩, trivial⟩ (fun sl hsl K hK => one_op rfl (ok_indexAddrA rfl rfl rfl rfl rfl rfl (hsl _ _ rfl) (hsl _ _ rfl) rfl hk23 hK)) stg_nil)) ?_)
  refine ds_store [(26, _), (27, _)] rfl ⟨.inr ⟨8, _, rfl, rfl, rfl⟩, .inr ⟨9, _, rfl, rfl, rfl⟩, trivial⟩ rfl (fun sl hsl K hK => one_op rfl (op_storeRow eTValue TValue.cs l18 r21 (n := t17) rfl rfl rfl (hsl _ _ rfl) (hsl _ _ rfl) rfl rfl rfl hk23 TValue.cells_eq (fun _ => rfl) (fun _ => rfl) hK)) (ds_nil ?_)
  refine nx 2 rfl (oA h1 rfl rfl fun hk24 h1 => ?_)
  exact nx 2 rfl (eX (t17 + 1, l18.set t17.toNat r21) h1 (ghost_le (le_mk ⟨er rfl, er rfl, er rfl, er rfl, trivial⟩ ⟨⟨_, rfl, ⟨sr, sr, sr, AV.sub_of_eq (congrArg (AV.arr 101000 5 0) (by simp)), sr, trivial⟩⟩, ⟨_, rfl, ⟨sr, sr, sr, sr, sr, trivial⟩⟩, ⟨_, rfl, subL_refl _⟩, trivial⟩)))
 exact nx 2 rfl (eXi _ (oi h1).symm (ghost_le (le_mk ⟨er rfl, er rfl, trivial⟩ ⟨⟨_, rfl, ⟨sr, sr, sr, AV.sub_of_eq (congrArg (AV.arr 101000 5 0) (by simp)), sr, trivial⟩⟩, ⟨_, rfl, ⟨sr, sr, sr, sr, sr, trivial⟩⟩, ⟨_, rfl, subL_refl _⟩, trivial⟩)))

def value_String (s_0 : Bytes) : Option TValue :=
 some (TValue.mk 3 0 s_0 [] [])

set_option maxHeartbeats 4000000 in
theorem value_String_ok (s_0 : Bytes) (r : TValue) (h0 : value_String s_0 = some r) : PCalls Tryz.prog 75 [eS s_0] (· = .p (.agg (TValue.cs r))) := by
 unfold value_String at h0
 refine pbodyA good Tryz.func75 rfl rfl rfl fun w0 => mP (fun v : TValue => .p (.agg (TValue.cs v))) ?_
 exact nx 11 rfl (mQ (oi h0) rfl (sub_cells ⟨.inl rfl, .inl rfl, .inl rfl, .inr ⟨rfl, rfl⟩, .inr ⟨rfl, rfl⟩, trivial⟩))

def value_Put (n : Nat) (v_0 : TValue) (key_1 : Bytes) (x_2 : TValue) : Option TValue :=
 (value_copied n v_0).bind fun r1 =>
 (slices_BinarySearch_string_string n r1.fKeys key_1).bind fun r3 =>
 (
   if (r1.fItems.length : Int) < r3.1 then
    some true
   else
    if r3.2 = true then
     some (decide (r3.1 = (r1.fItems.length : Int)))
    else
     some false
  : Option Bool).bind fun t7 =>
 if t7 = true then
  some (TValue.mk r1.fKind r1.fNum r1.fStr r1.fItems r1.fKeys)
 else
  if (!r3.2) = true then
   none
  else
   (value_copied n x_2).bind fun r10 =>
   ck ((0 : Int) ≤ r3.1 ∧ r3.1 < (r1.fItems.length : Int)) <|
   some (TValue.mk r1.fKind r1.fNum r1.fStr (putL r1.fItems r3.1 r10) r1.fKeys)

set_option maxHeartbeats 4000000 in
theorem value_Put_ok (n : Nat) (v_0 : TValue) (key_1 : Bytes) (x_2 : TValue) (r : TValue) (h0 : value_Put n v_0 key_1 x_2 = some r) : PCalls Tryz.prog 91 [.agg (TValue.cs v_0), eS key_1, .agg (TValue.cs x_2)] (· = .p (.agg (TValue.cs r))) := by
 unfold value_Put at h0
 refine pbodyA good Tryz.func91 rfl rfl rfl fun w0 => mP (fun v : TValue => .p (.agg (TValue.cs v))) ?_
 refine nx 9 rfl (bd h0 fun r1 e2 h0 => ?_)
 refine mO rfl (op_callV [] [] 101000 101002 (value_copied_ok _ v_0 _ e2) rfl rfl rfl rfl rfl ⟨sr, trivial⟩ rfl rfl trivial rfl rfl rfl rfl rfl rfl rfl rfl Tryz.call96 rfl rfl ?_)
 refine nx 8 rfl (bd h0 fun r3 e4 h0 => ?_)
 refine oK (slices_BinarySearch_string_string_ok _ r1.fKeys key_1 _ e4) rfl ⟨AV.sub_vec _ _ _ _, sr, trivial⟩ Tryz.call93 rfl (nx 8 rfl ?_)
 refine bd h0 fun o14 h1 h0 => kN o14 (fun v15 => ⟨[(1, .p (eS key_1)), (5, .ptr 5 0), (6, .ptr 6 0), (7, .ptr 7 0), (8, .p (eI r3.1)), (9, .p (eB r3.2)), (33, .p (eB v15))], [(5, (TValue.cs x_2).map .p), (6, [.p (eI 0), .p (eI 0), .p (eS ([] : Bytes)), .p (.val (.slice none 0 0)), .p (.val (.slice none 0 0))]), (7, [.p (eI r1.fKind), .p (eI r1.fNum), .p (eS r1.fStr), .stk 101000 5 (r1.fItems.map eTValue), .vec 101001 1 0 (r1.fKeys.map eS)])]⟩) ?_ ?_
 ·refine nx 1 rfl (fB [33] h0 rfl (fun c8 h0 => ?_) fun c8 h0 => ?_)
  ·refine nx 6 rfl (mG (ghost_stl 101000 rfl rfl rfl) ?_)
   exact nx 1 rfl (mQ (oi h0) rfl (sub_aggs ⟨sr, sr, sr, sr, AV.sub_vec _ _ _ _, trivial⟩))
  refine nx 8 rfl (fB [36] h0 rfl (fun c9 h0 => ?_) fun c9 h0 => ?_)
  ·refine nx 7 rfl (mO rfl (op_bslice eS [key_1] rfl rfl rfl rfl rfl rfl rfl rfl rfl rfl rfl rfl rfl rfl ?_))
   cases h0
  refine nx 3 rfl (bd h0 fun r10 e11 h0 => ?_)
  refine cc' h0 fun hk12 h0 => mG (gE (t := ⟨[(5, .ptr 5 0), (6, .ptr 6 0), (7, .ptr 7 0), (8, .p (eI r3.1))], [(5, (TValue.cs x_2).map .p), (6, [.p (eI 0), .p (eI 0), .p (eS ([] : Bytes)), .p (.val (.slice none 0 0)), .p (.val (.slice none 0 0))]), (7, [.p (eI r1.fKind), .p (eI r1.fNum), .p (eS r1.fStr), .stk 101000 5 (r1.fItems.map eTValue), .vec 101001 1 0 (r1.fKeys.map eS)])]⟩) rfl rfl) (mS ⟨2, [4, 6], (by3 (.some (dropV [] 102000 102002)) (.some (Nat.beq · 101000)) .none), (fun _ => [(5, .ptr 5 0), (6, .ptr 6 0), (7, .ptr 7 0), (8, .p (eI r3.1))]), (by3 ([(5, [.p (eI x_2.fKind), .p (eI x_2.fNum), .p (eS x_2.fStr), .p (eL eTValue x_2.fItems), .p (eL eS x_2.fKeys)]), (6, [.p (eI 0), .p (eI 0), .p (eS ([] : Bytes)), .p (.val (.slice none 0 0)), .p (.val (.slice none 0 0))]), (7, [.p (eI r1.fKind), .p (eI r1.fNum), .p (eS r1.fStr), .stk 101000 5 (r1.fItems.map eTValue), .vec 101001 1 0 (r1.fKeys.map eS)])]) ([(5, [.p (eI x_2.fKind), .p (eI x_2.fNum), .p (eS x_2.fStr), .p (eL eTValue x_2.fItems), .p (eL eS x_2.fKeys)]), (6, [.p (eI 0), .p (eI 0), .p (eS ([] : Bytes)), .p (.val (.slice none 0 0)), .p (.val (.slice none 0 0))]), (7, [.p (eI r1.fKind), .p (eI r1.fNum), .p (eS r1.fStr), .stk 101000 5 (r1.fItems.map eTValue), .vec 101001 1 0 (r1.fKeys.map eS)])]) ([(5, [.p (eI x_2.fKind), .p (eI x_2.fNum), .p (eS x_2.fStr), .p (eL eTValue x_2.fItems), .p (eL eS x_2.fKeys)]), (6, [.p (eI 0), .p (eI 0), .p (eS ([] : Bytes)), .p (.val (.slice none 0 0)), .p (.val (.slice none 0 0))]), (7, [.p (eI r1.fKind), .p (eI r1.fNum), .p (eS r1.fStr), .stk 101000 5 ((putL r1.fItems r3.1 r10).map eTValue), .vec 101001 1 0 (r1.fKeys.map eS)])]))⟩ rfl rfl rfl ⟨rfl, rfl, rfl, rfl, trivial⟩ (lt2 ⟨rfl, rfl, rfl, rfl, trivial⟩ ⟨rfl, rfl, rfl, rfl, trivial⟩) rfl rfl rfl rfl ?_)
  refine ds_pure (fun _ => .ptr 7 3) rfl rfl rfl (all3 rfl rfl (fun _ => rfl)) (lt2 rfl rfl) (stg_no rfl (stg_yes [(7, _)] ⟨.inl rfl, trivial⟩ (fun sl hsl K hK => one_op rfl (ok_fieldAddrP rfl rfl rfl rfl rfl rfl rfl rfl (hsl _ _ rfl) hK)) (stg_yes [(7, _)] ⟨.inl rfl, trivial⟩ (fun sl hsl K hK => one_op rfl (ok_fieldAddrP rfl rfl rfl rfl rfl rfl rfl rfl (hsl _ _ rfl) hK)) stg_nil))) (ds_pure (by3 (.stk 101000 5 (r1.fItems.map eTValue)) (.stk 101000 5 (r1.fItems.map eTValue)) .undef) rfl rfl rfl (all3 rfl rfl (fun _ => rfl)) (lt2 rfl rfl) (stg_no rfl (stg_yes [(51, _)] ⟨.inr ⟨0, _, rfl, rfl, rfl⟩, trivial⟩ (fun sl hsl K hK => one_op rfl (ok_loadP1 rfl rfl rfl rfl rfl (hsl _ _ rfl) rfl rfl hK)) (stg_yes [(51, _)] ⟨.inr ⟨0, _, rfl, rfl, rfl⟩, trivial⟩ (fun sl hsl K hK => one_op rfl (ok_loadP1 rfl rfl rfl rfl rfl (hsl _ _ rfl) rfl rfl hK)) stg_nil))) ?_)
  refine ds_pure (fun _ => .p (eI r3.1)) rfl rfl rfl (all3 rfl rfl (fun _ => rfl)) (lt2 rfl rfl) (stg_no rfl (stg_yes [(8, _)] ⟨.inl rfl, trivial⟩ (fun sl hsl K hK => one_op rfl (ok_move rfl rfl rfl (hsl _ _ rfl) hK)) (stg_yes [(8, _)] ⟨.inl rfl, trivial⟩ (fun sl hsl K hK => one_op rfl (ok_move rfl rfl rfl (hsl _ _ rfl) hK)) stg_nil))) (ds_pure (fun _ => .p (.agg (TValue.cs x_2))) rfl rfl rfl (all3 rfl rfl (fun _ => rfl)) (lt2 rfl rfl) (stg_no rfl (stg_no rfl (stg_yes [(5, _)] ⟨.inl rfl, trivial⟩ (fun sl hsl K hK => one_op rfl (ok_loadPA rfl rfl rfl rfl rfl (hsl _ _ rfl) rfl rfl rfl hK)) stg_nil))) ?_)
  refine ds_imp (fun _ => .agg [.p (eI r10.fKind), .p (eI r10.fNum), .p (eS r10.fStr), .p (eL eTValue r10.fItems), .vec 102001 1 0 (r10.fKeys.map eS)]) [(54, _)] rfl ⟨.inr ⟨3, _, rfl, rfl, rfl⟩, trivial⟩ rfl rfl (all2 rfl (fun _ => rfl)) (lt2 (fun h => absurd h (by decide)) (fun _ => rfl)) (fun sl hsl K hK => one_op rfl (op_ghostD 102000 (fun _ hq => op_callV [] [] 102000 102002 (value_copied_ok _ x_2 _ e11) rfl rfl rfl (args_cons (hsl _ _ rfl) args_nil) rfl ⟨sr, trivial⟩ rfl rfl trivial rfl rfl rfl rfl rfl rfl rfl rfl Tryz.call96 rfl rfl hq) rfl rfl rfl hK)) (ds_pure (by3 (.ptr 101000 (r3.1.toNat * 5)) (.ptr 101000 (r3.1.toNat * 5)) .undef) rfl rfl rfl (all3 rfl rfl (fun _ => rfl)) (lt2 rfl rfl) (stg_no rfl (stg_yes [(52, _), (53, _)] ⟨.inr ⟨1, _, rfl, rfl, rfl⟩, .inr ⟨2, _, rfl, rfl, rfl⟩, trivial⟩ (fun sl hsl K hK => one_op rfl (op_indexAddrSm eTValue r1.fItems rfl rfl rfl rfl rfl rfl (hsl _ _ rfl) (hsl _ _ rfl) rfl hk12 hK)) (stg_no rfl stg_nil))) ?_)
  refine ds_store [(55, _), (56, _)] rfl ⟨.inr ⟨4, _, rfl, rfl, rfl⟩, .inr ⟨5, _, rfl, rfl, rfl⟩, trivial⟩ rfl (fun sl hsl K hK => one_op rfl (op_storeSmD eTValue r1.fItems r10 7 3 rfl rfl rfl rfl (hsl _ _ rfl) rfl rfl hk12 (hsl _ _ rfl) (AV.sub_trans (sub_aggs (ds := TValue.cs r10) ⟨sr, sr, sr, sr, AV.sub_vec _ _ _ _, trivial⟩) (AV.sub_of_eq (congrArg AV.p (TValue.agg_eq r10).symm))) ((fun x => by cases x; rfl : ∀ x, (AV.p (eTValue x)).cellsA = some ((eTValue x).cells.map .p)) r10) (fun x => congrArg List.length (TValue.cells_eq x)) rfl rfl rfl (by simp only [putL, List.map_set]; rfl) hK)) (ds_nil ?_)
  refine nx 6 rfl (mG (ghost_stl 101000 rfl rfl rfl) ?_)
  exact nx 1 rfl (mQ (oi h0) rfl (sub_aggs ⟨sr, sr, sr, sr, AV.sub_vec _ _ _ _, trivial⟩))
 refine nx 4 rfl (mO rfl (op_lenSk eTValue r1.fItems rfl rfl rfl rfl rfl rfl ?_))
 refine nx 2 rfl (fD [23, 24] h1 rfl (fun c5 h1 => ?_) fun c5 h1 => ?_)
 ·exact nx 10 rfl (eX _ (oi h1).symm (gE rfl rfl))
 refine nx 2 rfl (fB [9, 18, 25, 26] h1 rfl (fun c6 h1 => ?_) fun c6 h1 => ?_)
 ·refine nx 3 rfl (mO rfl (op_lenSk eTValue r1.fItems rfl rfl rfl rfl rfl rfl ?_))
  exact nx 4 rfl (eX _ (oi h1).symm (ghost_le (le_mk ⟨er rfl, er rfl, er rfl, er rfl, er rfl, ⟨_, rfl, sub_bool c6.symm⟩, er rfl, trivial⟩ ⟨⟨_, rfl, ⟨sr, sr, sr, sr, sr, trivial⟩⟩, ⟨_, rfl, ⟨sr, sr, sr, sr, sr, trivial⟩⟩, ⟨_, rfl, ⟨sr, sr, sr, sr, sr, trivial⟩⟩, trivial⟩)))
 exact nx 8 rfl (eX _ (oi h1).symm (ghost_le (le_mk ⟨er rfl, er rfl, er rfl, er rfl, er rfl, ⟨_, rfl, sub_bool c6.symm⟩, er rfl, trivial⟩ ⟨⟨_, rfl, ⟨sr, sr, sr, sr, sr, trivial⟩⟩, ⟨_, rfl, ⟨sr, sr, sr, sr, sr, trivial⟩⟩, ⟨_, rfl, ⟨sr, sr, sr, sr, sr, trivial⟩⟩, trivial⟩)))

def schema_hidden_l1 (n : Nat) (l_1 : List TAttr) : Nat → Int → Int → Int → Bytes → (List TValue) → (List Bytes) → Option (Int × Int × Bytes × (List TValue) × (List Bytes))
 | 0, _, _, _, _, _, _ => none
 | m + 1, t25, f26, f27, f28, f29, f30 =>
 if t25 < (l_1.length : Int) then
  (
    ck ((0 : Int) ≤ t25 ∧ t25 < (l_1.length : Int)) <|
    (value_Get n (TValue.mk f26 f27 f28 f29 f30) ((lat l_1 t25).fName)).bind fun r33 =>
    (
      if r33.2 = true then
       if ((lat l_1 t25).fSensitive) = true then
        some (!decide (r33.1.fKind = 0))
       else
        some false
      else
       some false
     : Option Bool).bind fun t37 =>
    if t37 = true then
     (value_String ([40, 115, 101, 110, 115, 105, 116, 105, 118, 101, 41] : Bytes)).bind fun r39 =>
     (value_Put n (TValue.mk f26 f27 f28 f29 f30) ((lat l_1 t25).fName) r39).bind fun r41 =>
     some (r41.fKind, r41.fNum, r41.fStr, r41.fItems, r41.fKeys)
    else
     some (f26, f27, f28, f29, f30)
   : Option (Int × Int × Bytes × (List TValue) × (List Bytes))).bind fun q61 =>
  ck (inR (t25 + 1)) <|
  schema_hidden_l1 n l_1 m (t25 + 1) q61.1 q61.2.1 q61.2.2.1 q61.2.2.2.1 q61.2.2.2.2
 else
  some (f26, f27, f28, f29, f30)

def schema_hidden (n : Nat) (v_0 : TValue) (l_1 : List TAttr) : Option TValue :=
 (schema_hidden_l1 n l_1 n 0 v_0.fKind v_0.fNum v_0.fStr v_0.fItems v_0.fKeys).bind fun q60 =>
 some (TValue.mk q60.1 q60.2.1 q60.2.2.1 q60.2.2.2.1 q60.2.2.2.2)

set_option maxHeartbeats 4000000 in
theorem schema_hidden_ok (n : Nat) (v_0 : TValue) (l_1 : List TAttr) (r : TValue) (h0 : schema_hidden n v_0 l_1 = some r) : PCalls Tryz.prog 90 [.agg (TValue.cs v_0), eL eTAttr l_1] (· = .p (.agg (TValue.cs r))) := by
 unfold schema_hidden at h0
 refine pbodyA good Tryz.func90 rfl rfl rfl fun w0 => mP (fun v : TValue => .p (.agg (TValue.cs v))) ?_
 refine nx 9 rfl (oLl (f := eTAttr) rfl rfl ?_)
 refine nx 3 rfl (bd h0 fun o63 h1 h0 => ?_)
 refine kE 0 o63 (fun v64 => ⟨[(2, .ptr 2 0), (4, .ptr 4 0)], [(2, [.p (eI v64.1), .p (eI v64.2.1), .p (eS v64.2.2.1), .p (eL eTValue v64.2.2.2.1), .p (eL eS v64.2.2.2.2)]), (4, [.p (eI 0), .p (eI 0), .p (eS ([] : Bytes)), .p (.val (.slice none 0 0)), .p (.val (.slice none 0 0))])]⟩) ?_ ?_
 ·exact nx 7 rfl (mQ (oi h0) rfl (sr))
 refine lG (fun (q65 : Int × Int × Int × Bytes × (List TValue) × (List Bytes)) => ⟨[(2, .ptr 2 0), (4, .ptr 4 0), (9, .p (eL eTAttr l_1)), (10, .p (eI (l_1.length : Int))), (11, .p (eI q65.1))], [(2, [.p (eI q65.2.1), .p (eI q65.2.2.1), .p (eS q65.2.2.2.1), .p (eL eTValue q65.2.2.2.2.1), .p (eL eS q65.2.2.2.2.2)]), (4, [.p (eI 0), .p (eI 0), .p (eS ([] : Bytes)), .p (.val (.slice none 0 0)), .p (.val (.slice none 0 0))])]⟩) (fun m (q65 : Int × Int × Int × Bytes × (List TValue) × (List Bytes)) => schema_hidden_l1 n l_1 m q65.1 q65.2.1 q65.2.2.1 q65.2.2.2.1 q65.2.2.2.2.1 q65.2.2.2.2.2) (fun _ => rfl) (0, v_0.fKind, v_0.fNum, v_0.fStr, v_0.fItems, v_0.fKeys) h1 (gE rfl rfl) ?_
 rintro m ⟨t25, f26, f27, f28, f29, f30⟩ h1
 replace h1 : schema_hidden_l1 n l_1 (m + 1) t25 f26 f27 f28 f29 f30 = some o63 := h1
 rw [schema_hidden_l1] at h1
 refine nx 5 rfl (fD [12] h1 rfl (fun c31 h1 => ?_) fun c31 h1 => ?_)
 ·refine nx 3 rfl (bd h1 fun o66 h2 h1 => ?_)
  refine kN o66 (fun v67 => ⟨[(2, .ptr 2 0), (4, .ptr 4 0), (9, .p (eL eTAttr l_1)), (10, .p (eI (l_1.length : Int))), (11, .p (eI t25))], [(2, [.p (eI v67.1), .p (eI v67.2.1), .p (eS v67.2.2.1), .p (eL eTValue v67.2.2.2.1), .p (eL eS v67.2.2.2.2)]), (4, [.p (eI 0), .p (eI 0), .p (eS ([] : Bytes)), .p (.val (.slice none 0 0)), .p (.val (.slice none 0 0))])]⟩) ?_ ?_
  ·refine nx 2 rfl (oA h1 rfl rfl fun hk48 h1 => ?_)
   exact nx 2 rfl (eX (t25 + 1, o66.1, o66.2.1, o66.2.2.1, o66.2.2.2.1, o66.2.2.2.2) h1 (gE rfl rfl))
  refine nx 3 rfl (oE h2 TAttr.cells_eq rfl rfl (fun _ => rfl) fun hk32 h2 => ?_)
  refine nx 9 rfl (bd h2 fun r33 e34 h2 => ?_)
  refine oK (value_Get_ok _ (TValue.mk f26 f27 f28 f29 f30) ((lat l_1 t25).fName) _ e34) rfl ⟨sr, sr, trivial⟩ Tryz.call59 rfl (nx 8 rfl ?_)
  refine bd h2 fun o68 h3 h2 => kN o68 (fun v69 => ⟨[(2, .ptr 2 0), (4, .ptr 4 0), (6, .ptr 6 0), (9, .p (eL eTAttr l_1)), (10, .p (eI (l_1.length : Int))), (11, .p (eI t25)), (31, .p (eB v69))], [(2, [.p (eI f26), .p (eI f27), .p (eS f28), .p (eL eTValue f29), .p (eL eS f30)]), (4, [.p (eI 0), .p (eI 0), .p (eS ([] : Bytes)), .p (.val (.slice none 0 0)), .p (.val (.slice none 0 0))]), (6, (TAttr.cs (lat l_1 t25)).map .p)]⟩) ?_ ?_
  ·refine nx 1 rfl (fB [31] h2 rfl (fun c38 h2 => ?_) fun c38 h2 => ?_)
   ·refine nx 1 rfl (bd h2 fun r39 e40 h2 => ?_)
    refine bd h2 fun r41 e42 h2 => mG (gE (t := ⟨[(2, .ptr 2 0), (4, .ptr 4 0), (6, .ptr 6 0), (9, .p (eL eTAttr l_1)), (10, .p (eI (l_1.length : Int))), (11, .p (eI t25))], [(2, [.p (eI f26), .p (eI f27), .p (eS f28), .p (eL eTValue f29), .p (eL eS f30)]), (4, [.p (eI 0), .p (eI 0), .p (eS ([] : Bytes)), .p (.val (.slice none 0 0)), .p (.val (.slice none 0 0))]), (6, (TAttr.cs (lat l_1 t25)).map .p)]⟩) rfl rfl) (mS ⟨1, [5], (fun _ => .none), (fun _ => [(2, .ptr 2 0), (4, .ptr 4 0), (6, .ptr 6 0), (9, .p (eL eTAttr l_1)), (10, .p (eI (l_1.length : Int))), (11, .p (eI t25))]), (by2 ([(2, [.p (eI f26), .p (eI f27), .p (eS f28), .p (eL eTValue f29), .p (eL eS f30)]), (4, [.p (eI 0), .p (eI 0), .p (eS ([] : Bytes)), .p (.val (.slice none 0 0)), .p (.val (.slice none 0 0))]), (6, [.p (eS ((lat l_1 t25).fName)), .p (eI (((lat l_1 t25).fType).fKind)), .p (eL eTType (((lat l_1 t25).fType).fElems)), .p (eL eS (((lat l_1 t25).fType).fNames)), .p (eI ((lat l_1 t25).fMode)), .p (eB ((lat l_1 t25).fReplace)), .p (eB ((lat l_1 t25).fSensitive)), .p (eB ((lat l_1 t25).fVolatile))])]) ([(2, [.p (eI r41.fKind), .p (eI r41.fNum), .p (eS r41.fStr), .p (eL eTValue r41.fItems), .p (eL eS r41.fKeys)]), (2, [.p (eI f26), .p (eI f27), .p (eS f28), .p (eL eTValue f29), .p (eL eS f30)]), (4, [.p (eI 0), .p (eI 0), .p (eS ([] : Bytes)), .p (.val (.slice none 0 0)), .p (.val (.slice none 0 0))]), (6, [.p (eS ((lat l_1 t25).fName)), .p (eI (((lat l_1 t25).fType).fKind)), .p (eL eTType (((lat l_1 t25).fType).fElems)), .p (eL eS (((lat l_1 t25).fType).fNames)), .p (eI ((lat l_1 t25).fMode)), .p (eB ((lat l_1 t25).fReplace)), .p (eB ((lat l_1 t25).fSensitive)), .p (eB ((lat l_1 t25).fVolatile))])]))⟩ rfl rfl rfl ⟨rfl, rfl, rfl, rfl, rfl, rfl, trivial⟩ (lt1 ⟨rfl, rfl, rfl, rfl, rfl, rfl, trivial⟩) rfl rfl rfl rfl ?_)
    refine ds_pure (fun _ => .p (.agg [eI f26, eI f27, eS f28, eL eTValue f29, eL eS f30])) rfl rfl rfl (all2 rfl (fun _ => rfl)) (lt1 rfl) (stg_no rfl (stg_yes [(2, _)] ⟨.inl rfl, trivial⟩ (fun sl hsl K hK => one_op rfl (ok_loadPA rfl rfl rfl rfl rfl (hsl _ _ rfl) rfl rfl rfl hK)) stg_nil)) (ds_pure (fun _ => .ptr 6 0) rfl rfl rfl (all2 rfl (fun _ => rfl)) (lt1 rfl) (stg_no rfl (stg_yes [(6, _)] ⟨.inl rfl, trivial⟩ (fun sl hsl K hK => one_op rfl (ok_fieldAddrP rfl rfl rfl rfl rfl rfl rfl rfl (hsl _ _ rfl) hK)) stg_nil)) ?_)
    refine ds_pure (fun _ => .p (eS ((lat l_1 t25).fName))) rfl rfl rfl (all2 rfl (fun _ => rfl)) (lt1 rfl) (stg_no rfl (stg_yes [(33, _)] ⟨.inr ⟨1, _, rfl, rfl, rfl⟩, trivial⟩ (fun sl hsl K hK => one_op rfl (ok_loadP1 rfl rfl rfl rfl rfl (hsl _ _ rfl) rfl rfl hK)) stg_nil)) (ds_pure (fun _ => .p (.agg (TValue.cs r39))) rfl rfl rfl (all2 rfl (fun _ => rfl)) (lt1 rfl) (stg_no rfl (stg_yes [] trivial (fun sl hsl K hK => one_op rfl (ok_callP (value_String_ok ([40, 115, 101, 110, 115, 105, 116, 105, 118, 101, 41] : Bytes) _ e40) rfl rfl rfl (args_cons rfl args_nil) ⟨sr, trivial⟩ Tryz.call75 rfl hK)) stg_nil)) ?_)
    refine ds_pure (fun _ => .p (.agg (TValue.cs r41))) rfl rfl rfl (all2 rfl (fun _ => rfl)) (lt1 rfl) (stg_no rfl (stg_yes [(32, _), (34, _), (35, _)] ⟨.inr ⟨0, _, rfl, rfl, rfl⟩, .inr ⟨2, _, rfl, rfl, rfl⟩, .inr ⟨3, _, rfl, rfl, rfl⟩, trivial⟩ (fun sl hsl K hK => one_op rfl (ok_callP (value_Put_ok _ (TValue.mk f26 f27 f28 f29 f30) ((lat l_1 t25).fName) r39 _ e42) rfl rfl rfl (args_cons (hsl _ _ rfl) (args_cons (hsl _ _ rfl) (args_cons (hsl _ _ rfl) args_nil))) ⟨sr, sr, sr, trivial⟩ Tryz.call91 rfl hK)) stg_nil)) (ds_store [(2, _), (36, _)] rfl ⟨.inl rfl, .inr ⟨4, _, rfl, rfl, rfl⟩, trivial⟩ rfl (fun sl hsl K hK => one_op rfl (ok_store rfl rfl rfl (hsl _ _ rfl) (hsl _ _ rfl) rfl rfl rfl (Nat.le_of_ble_eq_true rfl) hK)) ?_)
    refine ds_nil (nx 1 rfl ?_)
    exact eX _ (oi h2).symm (gE rfl rfl)
   exact nx 2 rfl (eX _ (oi h2).symm (gE rfl rfl))
  refine nx 3 rfl (fB [8, 21, 22, 23] h3 rfl (fun c35 h3 => ?_) fun c35 h3 => ?_)
  ·refine nx 4 rfl (fB [25, 26, 27] h3 rfl (fun c36 h3 => ?_) fun c36 h3 => ?_)
   ·exact nx 5 rfl (eX _ (oi h3).symm (gE rfl rfl))
   exact nx 5 rfl (eX _ (oi h3).symm (gE rfl rfl))
  exact nx 9 rfl (eX _ (oi h3).symm (gE rfl rfl))
 exact nx 2 rfl (eXi _ (oi h1).symm (gE rfl rfl))

def schema_Mask_l2 (r52 : TValue × Bool) : Nat → Int → Option Unit
 | 0, _ => none
 | m + 1, t65 =>
 if t65 < (r52.1.fItems.length : Int) then
  ck ((0 : Int) ≤ t65 ∧ t65 < (r52.1.fItems.length : Int)) <|
  if (lat r52.1.fItems t65).fKind = 5 then
   none
  else
   ck (inR (t65 + 1)) <|
   schema_Mask_l2 r52 m (t65 + 1)
 else
  some ()

def schema_Mask_l3 (n : Nat) (s_0 : TSchema) : Nat → Int → Int → Int → Bytes → (List TValue) → (List Bytes) → Option (Int × Int × Bytes × (List TValue) × (List Bytes))
 | 0, _, _, _, _, _, _ => none
 | m + 1, t44, f45, f46, f47, f48, f49 =>
 if t44 < (s_0.fNested.length : Int) then
  (
    ck ((0 : Int) ≤ t44 ∧ t44 < (s_0.fNested.length : Int)) <|
    (value_Get n (TValue.mk f45 f46 f47 f48 f49) ((lat s_0.fNested t44).fName)).bind fun r52 =>
    (
      if (!r52.2) = true then
       some true
      else
       some (!decide (r52.1.fKind = 4))
     : Option Bool).bind fun t55 =>
    if t55 = true then
     some (f45, f46, f47, f48, f49)
    else
     (schema_Mask_l2 r52 n 0).bind fun q96 =>
     (value_Put n (TValue.mk f45 f46 f47 f48 f49) ((lat s_0.fNested t44).fName) r52.1).bind fun r74 =>
     some (r74.fKind, r74.fNum, r74.fStr, r74.fItems, r74.fKeys)
   : Option (Int × Int × Bytes × (List TValue) × (List Bytes))).bind fun q94 =>
  ck (inR (t44 + 1)) <|
  schema_Mask_l3 n s_0 m (t44 + 1) q94.1 q94.2.1 q94.2.2.1 q94.2.2.2.1 q94.2.2.2.2
 else
  some (f45, f46, f47, f48, f49)

def schema_Mask (n : Nat) (s_0 : TSchema) (v_1 : TValue) : Option TValue :=
 (schema_copied n v_1).bind fun r1 =>
 if v_1.fKind = 5 then
  (schema_hidden n r1 s_0.fAttrs).bind fun r4 =>
  (schema_Mask_l3 n s_0 n 0 r4.fKind r4.fNum r4.fStr r4.fItems r4.fKeys).bind fun q93 =>
  some (TValue.mk q93.1 q93.2.1 q93.2.2.1 q93.2.2.2.1 q93.2.2.2.2)
 else
  some r1

set_option maxHeartbeats 4000000 in
theorem schema_Mask_ok (n : Nat) (s_0 : TSchema) (v_1 : TValue) (r : TValue) (h0 : schema_Mask n s_0 v_1 = some r) : PCalls Tryz.prog 57 [.agg (TSchema.cs s_0), .agg (TValue.cs v_1)] (· = .p (.agg (TValue.cs r))) := by
 unfold schema_Mask at h0
 refine pbodyA good Tryz.func57 rfl rfl rfl fun w0 => mP (fun v : TValue => .p (.agg (TValue.cs v))) ?_
 refine nx 9 rfl (bd h0 fun r1 e2 h0 => ?_)
 refine oK (schema_copied_ok _ v_1 _ e2) rfl ⟨sr, trivial⟩ Tryz.call89 rfl (nx 10 rfl ?_)
 refine fN [16] h0 rfl (fun c3 h0 => ?_) fun c3 h0 => ?_
 ·refine nx 7 rfl (bd h0 fun r4 e5 h0 => ?_)
  refine oK (schema_hidden_ok _ r1 s_0.fAttrs _ e5) rfl ⟨sr, sr, trivial⟩ Tryz.call90 rfl (nx 7 rfl ?_)
  refine oLl (f := eTNested) rfl rfl (nx 3 rfl ?_)
  refine bd h0 fun o97 h1 h0 => kE 0 o97 (fun v98 => ⟨[(4, .ptr 4 0), (5, .ptr 5 0)], [(4, [.p (eI 0), .p (eI 0), .p (eS ([] : Bytes)), .p (.val (.slice none 0 0)), .p (.val (.slice none 0 0))]), (5, [.p (eI v98.1), .p (eI v98.2.1), .p (eS v98.2.2.1), .p (eL eTValue v98.2.2.2.1), .p (eL eS v98.2.2.2.2)])]⟩) ?_ ?_
  ·exact nx 7 rfl (mQ (oi h0) rfl (sr))
  refine lG (fun (q99 : Int × Int × Int × Bytes × (List TValue) × (List Bytes)) => ⟨[(4, .ptr 4 0), (5, .ptr 5 0), (23, .p (eL eTNested s_0.fNested)), (24, .p (eI (s_0.fNested.length : Int))), (25, .p (eI q99.1))], [(4, [.p (eI 0), .p (eI 0), .p (eS ([] : Bytes)), .p (.val (.slice none 0 0)), .p (.val (.slice none 0 0))]), (5, [.p (eI q99.2.1), .p (eI q99.2.2.1), .p (eS q99.2.2.2.1), .p (eL eTValue q99.2.2.2.2.1), .p (eL eS q99.2.2.2.2.2)])]⟩) (fun m (q99 : Int × Int × Int × Bytes × (List TValue) × (List Bytes)) => schema_Mask_l3 n s_0 m q99.1 q99.2.1 q99.2.2.1 q99.2.2.2.1 q99.2.2.2.2.1 q99.2.2.2.2.2) (fun _ => rfl) (0, r4.fKind, r4.fNum, r4.fStr, r4.fItems, r4.fKeys) h1 (gE rfl rfl) ?_
  rintro m ⟨t44, f45, f46, f47, f48, f49⟩ h1
  replace h1 : schema_Mask_l3 n s_0 (m + 1) t44 f45 f46 f47 f48 f49 = some o97 := h1
  rw [schema_Mask_l3] at h1
  refine nx 5 rfl (fD [26] h1 rfl (fun c50 h1 => ?_) fun c50 h1 => ?_)
  ·refine nx 3 rfl (bd h1 fun o100 h2 h1 => ?_)
   refine kN o100 (fun v101 => ⟨[(4, .ptr 4 0), (5, .ptr 5 0), (23, .p (eL eTNested s_0.fNested)), (24, .p (eI (s_0.fNested.length : Int))), (25, .p (eI t44))], [(4, [.p (eI 0), .p (eI 0), .p (eS ([] : Bytes)), .p (.val (.slice none 0 0)), .p (.val (.slice none 0 0))]), (5, [.p (eI v101.1), .p (eI v101.2.1), .p (eS v101.2.2.1), .p (eL eTValue v101.2.2.2.1), .p (eL eS v101.2.2.2.2)])]⟩) ?_ ?_
   ·refine nx 2 rfl (oA h1 rfl rfl fun hk81 h1 => ?_)
    exact nx 2 rfl (eX (t44 + 1, o100.1, o100.2.1, o100.2.2.1, o100.2.2.2.1, o100.2.2.2.2) h1 (gE rfl rfl))
   refine nx 3 rfl (oE h2 TNested.cells_eq rfl rfl (fun _ => rfl) fun hk51 h2 => ?_)
   refine nx 9 rfl (bd h2 fun r52 e53 h2 => ?_)
   refine oK (value_Get_ok _ (TValue.mk f45 f46 f47 f48 f49) ((lat s_0.fNested t44).fName) _ e53) rfl ⟨sr, sr, trivial⟩ Tryz.call59 rfl (nx 9 rfl ?_)
   refine bd h2 fun o102 h3 h2 => kN o102 (fun v103 => ⟨[(4, .ptr 4 0), (5, .ptr 5 0), (7, .ptr 7 0), (8, .ptr 8 0), (23, .p (eL eTNested s_0.fNested)), (24, .p (eI (s_0.fNested.length : Int))), (25, .p (eI t44)), (42, .p (eB v103))], [(4, [.p (eI 0), .p (eI 0), .p (eS ([] : Bytes)), .p (.val (.slice none 0 0)), .p (.val (.slice none 0 0))]), (5, [.p (eI f45), .p (eI f46), .p (eS f47), .p (eL eTValue f48), .p (eL eS f49)]), (7, (TNested.cs (lat s_0.fNested t44)).map .p), (8, (TValue.cs r52.1).map .p)]⟩) ?_ ?_
   ·refine nx 1 rfl (fB [42] h2 rfl (fun c56 h2 => ?_) fun c56 h2 => ?_)
    ·exact nx 2 rfl (eX _ (oi h2).symm (gE rfl rfl))
    refine nx 7 rfl (oLl (f := eTValue) rfl rfl ?_)
    refine nx 3 rfl (bd h2 fun o104 h3 h2 => ?_)
    refine kE 2 o104 (fun v105 => ⟨[(4, .ptr 4 0), (5, .ptr 5 0), (7, .ptr 7 0), (8, .ptr 8 0), (23, .p (eL eTNested s_0.fNested)), (24, .p (eI (s_0.fNested.length : Int))), (25, .p (eI t44))], [(4, [.p (eI 0), .p (eI 0), .p (eS ([] : Bytes)), .p (.val (.slice none 0 0)), .p (.val (.slice none 0 0))]), (5, [.p (eI f45), .p (eI f46), .p (eS f47), .p (eL eTValue f48), .p (eL eS f49)]), (7, (TNested.cs (lat s_0.fNested t44)).map .p), (8, (TValue.cs r52.1).map .p)]⟩) ?_ ?_
    ·refine nx 6 rfl (bd h2 fun r74 e75 h2 => ?_)
     refine oK (value_Put_ok _ (TValue.mk f45 f46 f47 f48 f49) ((lat s_0.fNested t44).fName) r52.1 _ e75) rfl ⟨sr, sr, sr, trivial⟩ Tryz.call91 rfl (nx 2 rfl ?_)
     exact eX _ (oi h2).symm (gE rfl rfl)
    refine lG (fun (q106 : Int) => ⟨[(4, .ptr 4 0), (5, .ptr 5 0), (7, .ptr 7 0), (8, .ptr 8 0), (23, .p (eL eTNested s_0.fNested)), (24, .p (eI (s_0.fNested.length : Int))), (25, .p (eI t44)), (44, .p (eL eTValue r52.1.fItems)), (45, .p (eI (r52.1.fItems.length : Int))), (46, .p (eI q106))], [(4, [.p (eI 0), .p (eI 0), .p (eS ([] : Bytes)), .p (.val (.slice none 0 0)), .p (.val (.slice none 0 0))]), (5, [.p (eI f45), .p (eI f46), .p (eS f47), .p (eL eTValue f48), .p (eL eS f49)]), (7, (TNested.cs (lat s_0.fNested t44)).map .p), (8, (TValue.cs r52.1).map .p)]⟩) (fun m (q106 : Int) => schema_Mask_l2 r52 m q106) (fun _ => rfl) 0 h3 (gE rfl rfl) ?_
    rintro m t65 h3
    replace h3 : schema_Mask_l2 r52 (m + 1) t65 = some o104 := h3
    rw [schema_Mask_l2] at h3
    refine nx 5 rfl (fD [47] h3 rfl (fun c66 h3 => ?_) fun c66 h3 => ?_)
    ·refine nx 7 rfl (oE h3 TValue.cells_eq rfl rfl (fun _ => rfl) fun hk67 h3 => ?_)
     refine nx 11 rfl (fD [53] h3 rfl (fun c68 h3 => ?_) fun c68 h3 => ?_)
     ·refine nx 1 rfl ?_
      cases h3
     refine nx 3 rfl (oA h3 rfl rfl fun hk72 h3 => ?_)
     exact nx 2 rfl (eX (t65 + 1) h3 (gE rfl rfl))
    exact nx 2 rfl (eXi _ (oi h3).symm (gE rfl rfl))
   refine nx 4 rfl (fB [37, 38] h3 rfl (fun c54 h3 => ?_) fun c54 h3 => ?_)
   ·exact nx 5 rfl (eX _ (oi h3).symm (gE rfl rfl))
   exact nx 5 rfl (eX _ (oi h3).symm (gE rfl rfl))
  exact nx 2 rfl (eXi _ (oi h1).symm (gE rfl rfl))
 exact nx 7 rfl (mQ (oi h0) rfl (sr))

def schema_typed_l1 (r_schema_typed : TType → Option TType) : Nat → Option Unit
 | 0 => none
 | m + 1 =>
 if 0 < (([] : List TType).length : Int) then
  ck ((0 : Int) ≤ 0 ∧ 0 < (([] : List TType).length : Int)) <|
  (r_schema_typed (lat ([] : List TType) 0)).bind fun r6 =>
  ck ((0 : Int) ≤ 0 ∧ 0 < (([] : List TType).length : Int)) <|
  none
 else
  some ()

def schema_typed_l2 (r_schema_typed : TType → Option TType) (t_0 : TType) : Nat → Int → (List TType) → Option (List TType)
 | 0, _, _ => none
 | m + 1, t17, l18 =>
 if t17 < (t_0.fElems.length : Int) then
  ck ((0 : Int) ≤ t17 ∧ t17 < (l18.length : Int)) <|
  (r_schema_typed (lat l18 t17)).bind fun r21 =>
  ck ((0 : Int) ≤ t17 ∧ t17 < (l18.length : Int)) <|
  ck (inR (t17 + 1)) <|
  schema_typed_l2 r_schema_typed t_0 m (t17 + 1) (l18.set t17.toNat r21)
 else
  some l18

def schema_typed : Nat → TType → Option TType
 | 0, _ => none
 | n + 1, t_0 =>
 ck (t_0.fNames.length * 16 ≤ 140737488355328) <|
 if t_0.fElems.isEmpty = true then
  (schema_typed_l1 (schema_typed n) n ).bind fun q28 =>
  some (TType.mk t_0.fKind ([] : List TType) t_0.fNames)
 else
  ck (t_0.fElems.length * 56 ≤ 140737488355328) <|
  (schema_typed_l2 (schema_typed n) t_0 n 0 t_0.fElems).bind fun l27 =>
  some (TType.mk t_0.fKind l27 t_0.fNames)

set_option maxHeartbeats 4000000 in
theorem schema_typed_ok (n : Nat) : ∀ (t_0 : TType) (r : TType), schema_typed n t_0 = some r → PCalls Tryz.prog 119 [.agg (TType.cs t_0)] (· = .p (.agg (TType.cs r))) := by
 induction n with
 | zero => intro t_0 r h0; cases h0
 | succ n ih =>
 have ih_schema_typed_ok := ih
 intro t_0 r h0
 rw [schema_typed] at h0
 refine pbodyA good Tryz.func119 rfl rfl rfl fun w0 => mP (fun v : TType => .p (.agg (TType.cs v))) ?_
 refine nx 9 rfl (cc' h0 fun hk1 h0 => ?_)
 refine oK (slices_Clone_string_string_ok t_0.fNames hk1) rfl ⟨sr, trivial⟩ Tryz.call116 rfl (nx 7 rfl ?_)
 refine any_byB (b := t_0.fElems.isEmpty) (fun c2 => ?_) (fun c2 => ?_)
 ·replace h0 := if_t c2 h0
  refine mO rfl (ok_callP (slices_Clone_api_Type_api_Type_nil t_0.fElems c2) rfl rfl rfl rfl ⟨sr, trivial⟩ Tryz.call151 rfl ?_)
  refine nx 8 rfl (oLl (f := eTType) rfl rfl ?_)
  refine nx 3 rfl (bd h0 fun o30 h1 h0 => ?_)
  refine kE 0 o30 (fun v31 => ⟨[(1, .ptr 1 0), (2, .ptr 2 0)], [(1, [.p (eI t_0.fKind), .p (eL eTType ([] : List TType)), .p (eL eS t_0.fNames)]), (2, [.p (eI 0), .p (.val (.slice none 0 0)), .p (.val (.slice none 0 0))])]⟩) ?_ ?_
  ·exact nx 7 rfl (mQ (oi h0) rfl (sr))
  refine lG (fun (q32 : Unit) => ⟨[(1, .ptr 1 0), (2, .ptr 2 0), (14, .p (eI (([] : List TType).length : Int))), (15, .p (eI 0))], [(1, [.p (eI t_0.fKind), .p (eL eTType ([] : List TType)), .p (eL eS t_0.fNames)]), (2, [.p (eI 0), .p (.val (.slice none 0 0)), .p (.val (.slice none 0 0))])]⟩) (fun m (q32 : Unit) => schema_typed_l1 (schema_typed n) m ) (fun _ => rfl) () h1 (gE rfl rfl) ?_
  rintro m _ h1
  replace h1 : schema_typed_l1 (schema_typed n) (m + 1)  = some o30 := h1
  rw [schema_typed_l1] at h1
  refine nx 5 rfl (fD [16] h1 rfl (fun c4 h1 => ?_) fun c4 h1 => ?_)
  ·refine nx 9 rfl (cc' h1 fun hk5 h1 => ?_)
   refine bd h1 fun r6 e7 h1 => cc' h1 fun hk8 h1 => ?_
   cases h1
  exact nx 2 rfl (eXi _ (oi h1).symm (gE rfl rfl))
 replace h0 := if_bf c2 h0
 refine cc' h0 fun hk3 h0 => mO rfl (op_callV [] [] 101000 101001 (slices_Clone_api_Type_api_Type_row t_0.fElems c2 hk3) rfl rfl rfl rfl rfl ⟨sr, trivial⟩ rfl rfl trivial rfl rfl rfl rfl rfl rfl rfl rfl Tryz.call151 rfl (mapO_cons rfl (mapA_go_p _) rfl) ?_)
 refine nx 12 rfl (bd h0 fun o33 h1 h0 => ?_)
 refine kE 0 o33 (fun v34 => ⟨[(1, .ptr 1 0), (2, .ptr 2 0)], [(1, [.p (eI t_0.fKind), .arr 101000 3 0 v34.length, .p (eL eS t_0.fNames)]), (2, [.p (eI 0), .p (.val (.slice none 0 0)), .p (.val (.slice none 0 0))]), (101000, rowC eTType v34)]⟩) ?_ ?_
 ·refine nx 3 rfl (mG (ghost_freezeA (sl' := [(1, .ptr 1 0), (2, .ptr 2 0)]) (ob' := [(1, [.p (eI t_0.fKind), .p (eL eTType o33), .p (eL eS t_0.fNames)]), (2, [.p (eI 0), .p (.val (.slice none 0 0)), .p (.val (.slice none 0 0))])]) 101000 3 eTType o33 rfl rfl rfl (fun x => ⟨congrArg List.length (TType.cells_eq x), by rw [TType.cells_eq]; rfl⟩) ⟨⟨_, rfl, .inl rfl⟩, ⟨_, rfl, .inl rfl⟩, trivial⟩ ⟨⟨rfl, _, rfl, ⟨.inl rfl, .inr ⟨(by simp), rfl⟩, .inl rfl, trivial⟩⟩, ⟨rfl, _, rfl, ⟨.inl rfl, .inl rfl, .inl rfl, trivial⟩⟩, trivial⟩) ?_)
  exact nx 4 rfl (mQ (oi h0) rfl (sr))
 refine lG (fun (q35 : Int × (List TType)) => ⟨[(1, .ptr 1 0), (2, .ptr 2 0), (14, .p (eI (t_0.fElems.length : Int))), (15, .p (eI q35.1))], [(1, [.p (eI t_0.fKind), .arr 101000 3 0 q35.2.length, .p (eL eS t_0.fNames)]), (2, [.p (eI 0), .p (.val (.slice none 0 0)), .p (.val (.slice none 0 0))]), (101000, rowC eTType q35.2)]⟩) (fun m (q35 : Int × (List TType)) => schema_typed_l2 (schema_typed n) t_0 m q35.1 q35.2) (fun _ => rfl) (0, t_0.fElems) h1 (ghost_le (le_mk ⟨er rfl, er rfl, er rfl, er rfl, trivial⟩ ⟨⟨_, rfl, ⟨sr, AV.sub_of_eq (congrArg (AV.arr 101000 3 0) (by simp)), sr, trivial⟩⟩, ⟨_, rfl, ⟨sr, sr, sr, trivial⟩⟩, ⟨_, rfl, subL_refl _⟩, trivial⟩)) ?_
 rintro m ⟨t17, l18⟩ h1
 replace h1 : schema_typed_l2 (schema_typed n) t_0 (m + 1) t17 l18 = some o33 := h1
 rw [schema_typed_l2] at h1
 refine nx 5 rfl (fD [16] h1 rfl (fun c19 h1 => ?_) fun c19 h1 => ?_)
 ·refine nx 9 rfl (cc' h1 fun hk20 h1 => ?_)
  refine bd h1 fun r21 e22 h1 => cc' h1 fun hk23 h1 => mG (ghost_le (t := ⟨[(1, .ptr 1 0), (2, .ptr 2 0), (3, .p (eI t17)), (14, .p (eI (t_0.fElems.length : Int))), (15, .p (eI t17))], [(1, [.p (eI t_0.fKind), .arr 101000 3 0 l18.length, .p (eL eS t_0.fNames)]), (2, [.p (eI 0), .p (.val (.slice none 0 0)), .p (.val (.slice none 0 0))]), (101000, rowC eTType l18)]⟩) (le_mk ⟨er rfl, er rfl, er rfl, er rfl, er rfl, trivial⟩ ⟨⟨_, rfl, ⟨sr, AV.sub_of_eq (congrArg (AV.arr 101000 3 0) (by simp)), sr, trivial⟩⟩, ⟨_, rfl, ⟨sr, sr, sr, trivial⟩⟩, ⟨_, rfl, subL_refl _⟩, trivial⟩)) (mS ⟨1, [10], (fun _ => .none), (fun _ => [(1, .ptr 1 0), (2, .ptr 2 0), (3, .p (eI t17)), (14, .p (eI (t_0.fElems.length : Int))), (15, .p (eI t17))]), (by2 ([(1, [.p (eI t_0.fKind), .arr 101000 3 0 l18.length, .p (eL eS t_0.fNames)]), (2, [.p (eI 0), .p (.val (.slice none 0 0)), .p (.val (.slice none 0 0))]), (101000, rowC eTType l18)]) ([(101000, rowC eTType (l18.set t17.toNat r21)), (1, [.p (eI t_0.fKind), .arr 101000 3 0 l18.length, .p (eL eS t_0.fNames)]), (2, [.p (eI 0), .p (.val (.slice none 0 0)), .p (.val (.slice none 0 0))]), (101000, rowC eTType l18)]))⟩ rfl rfl rfl ⟨rfl, rfl, rfl, rfl, rfl, trivial⟩ (lt1 ⟨rfl, rfl, rfl, rfl, rfl, trivial⟩) rfl rfl rfl rfl ?_)
  refine ds_pure (fun _ => .ptr 1 1) rfl rfl rfl (all2 rfl (fun _ => rfl)) (lt1 rfl) (stg_no rfl (stg_yes [(1, _)] ⟨.inl rfl, trivial⟩ (fun sl hsl K hK => one_op rfl (ok_fieldAddrP rfl rfl rfl rfl rfl rfl rfl rfl (hsl _ _ rfl) hK)) stg_nil)) (ds_pure (fun _ => .arr 101000 3 0 l18.length) rfl rfl rfl (all2 rfl (fun _ => rfl)) (lt1 rfl) (stg_no rfl (stg_yes [(18, _)] ⟨.inr ⟨0, _, rfl, rfl, rfl⟩, trivial⟩ (fun sl hsl K hK => one_op rfl (ok_loadP1 rfl rfl rfl rfl rfl (hsl _ _ rfl) rfl rfl hK)) stg_nil)) ?_)
  refine ds_pure (fun _ => .p (eI t17)) rfl rfl rfl (all2 rfl (fun _ => rfl)) (lt1 rfl) (stg_no rfl (stg_yes [(3, _)] ⟨.inl rfl, trivial⟩ (fun sl hsl K hK => one_op rfl (ok_move rfl rfl rfl (hsl _ _ rfl) hK)) stg_nil)) (ds_pure (fun _ => .ptr 1 1) rfl rfl rfl (all2 rfl (fun _ => rfl)) (lt1 rfl) (stg_no rfl (stg_yes [(1, _)] ⟨.inl rfl, trivial⟩ (fun sl hsl K hK => one_op rfl (ok_fieldAddrP rfl rfl rfl rfl rfl rfl rfl rfl (hsl _ _ rfl) hK)) stg_nil)) ?_)
  refine ds_pure (fun _ => .arr 101000 3 0 l18.length) rfl rfl rfl (all2 rfl (fun _ => rfl)) (lt1 rfl) (stg_no rfl (stg_yes [(21, _)] ⟨.inr ⟨3, _, rfl, rfl, rfl⟩, trivial⟩ (fun sl hsl K hK => one_op rfl (ok_loadP1 rfl rfl rfl rfl rfl (hsl _ _ rfl) rfl rfl hK)) stg_nil)) (ds_pure (fun _ => .p (eI t17)) rfl rfl rfl (all2 rfl (fun _ => rfl)) (lt1 rfl) (stg_no rfl (stg_yes [(3, _)] ⟨.inl rfl, trivial⟩ (fun sl hsl K hK => one_op rfl (ok_move rfl rfl rfl (hsl _ _ rfl) hK)) stg_nil)) ?_)
  refine ds_pure (fun _ => .ptr 101000 (0 + t17.toNat * 3)) rfl rfl rfl (all2 rfl (fun _ => rfl)) (lt1 rfl) (stg_no rfl (stg_yes [(22, _), (23, _)] ⟨.inr ⟨4, _, rfl, rfl, rfl⟩, .inr ⟨5, _, rfl, rfl, rfl⟩, trivial⟩ (fun sl hsl K hK => one_op rfl (ok_indexAddrA rfl rfl rfl rfl rfl rfl (hsl _ _ rfl) (hsl _ _ rfl) rfl hk20 hK)) stg_nil)) (ds_pure (fun _ => .p (.agg (TType.cs (lat l18 t17)))) rfl rfl rfl (all2 rfl (fun _ => rfl)) (lt1 rfl) (stg_no rfl (stg_yes [(24, _)] ⟨.inr ⟨6, _, rfl, rfl, rfl⟩, trivial⟩ (fun sl hsl K hK => one_op rfl (op_loadRow eTType TType.cs l18 rfl rfl rfl rfl rfl (hsl _ _ rfl) rfl rfl rfl hk20 TType.cells_eq (fun _ => rfl) hK)) stg_nil)) ?_)
  refine ds_pure (fun _ => .p (.agg (TType.cs r21))) rfl rfl rfl (all2 rfl (fun _ => rfl)) (lt1 rfl) (stg_no rfl (stg_yes [(25, _)] ⟨.inr ⟨7, _, rfl, rfl, rfl⟩, trivial⟩ (fun sl hsl K hK => one_op rfl (ok_callP (ih_schema_typed_ok (lat l18 t17) _ e22) rfl rfl rfl (args_cons (hsl _ _ rfl) args_nil) ⟨sr, trivial⟩ Tryz.call119 rfl hK)) stg_nil)) (ds_pure (fun _ => .ptr 101000 (0 + t17.toNat * 3)) rfl rfl rfl (all2 rfl (fun _ => rfl)) (lt1 rfl) (stg_no rfl (stg_yes [(19, _), (20, _)] ⟨.inr ⟨1, _, rfl, rfl, rfl⟩, .inr ⟨2, _, rfl, rfl, rfl⟩, trivial⟩ (fun sl hsl K hK => one_op rfl (ok_indexAddrA rfl rfl rfl rfl rfl rfl (hsl _ _ rfl) (hsl _ _ rfl) rfl hk23 hK)) stg_nil)) ?_)
  refine ds_store [(26, _), (27, _)] rfl ⟨.inr ⟨8, _, rfl, rfl, rfl⟩, .inr ⟨9, _, rfl, rfl, rfl⟩, trivial⟩ rfl (fun sl hsl K hK => one_op rfl (op_storeRow eTType TType.cs l18 r21 (n := t17) rfl rfl rfl (hsl _ _ rfl) (hsl _ _ rfl) rfl rfl rfl hk23 TType.cells_eq (fun _ => rfl) (fun _ => rfl) hK)) (ds_nil ?_)
  refine nx 2 rfl (oA h1 rfl rfl fun hk24 h1 => ?_)
  exact nx 2 rfl (eX (t17 + 1, l18.set t17.toNat r21) h1 (ghost_le (le_mk ⟨er rfl, er rfl, er rfl, er rfl, trivial⟩ ⟨⟨_, rfl, ⟨sr, AV.sub_of_eq (congrArg (AV.arr 101000 3 0) (by simp)), sr, trivial⟩⟩, ⟨_, rfl, ⟨sr, sr, sr, trivial⟩⟩, ⟨_, rfl, subL_refl _⟩, trivial⟩)))
 exact nx 2 rfl (eXi _ (oi h1).symm (ghost_le (le_mk ⟨er rfl, er rfl, trivial⟩ ⟨⟨_, rfl, ⟨sr, AV.sub_of_eq (congrArg (AV.arr 101000 3 0) (by simp)), sr, trivial⟩⟩, ⟨_, rfl, ⟨sr, sr, sr, trivial⟩⟩, ⟨_, rfl, subL_refl _⟩, trivial⟩)))

def schema_object_l1 (n : Nat) (l_0 : List TAttr) : Nat → Int → (List TType) → (List Bytes) → Option ((List TType) × (List Bytes))
 | 0, _, _, _ => none
 | m + 1, t11, f12, f13 =>
 if t11 < (l_0.length : Int) then
  ck ((0 : Int) ≤ t11 ∧ t11 < (l_0.length : Int)) <|
  ck ((f13.length + [(lat l_0 t11).fName].length) * 16 ≤ 140737488355328) <|
  (schema_typed n ((lat l_0 t11).fType)).bind fun r17 =>
  ck ((f12.length + [r17].length) * 56 ≤ 140737488355328) <|
  ck (inR (t11 + 1)) <|
  schema_object_l1 n l_0 m (t11 + 1) (f12 ++ [r17]) (f13 ++ [(lat l_0 t11).fName])
 else
  some (f12, f13)

def schema_object (n : Nat) (l_0 : List TAttr) : Option TType :=
 (schema_object_l1 n l_0 n 0 [] []).bind fun q26 =>
 some (TType.mk 6 q26.1 q26.2)

set_option maxHeartbeats 4000000 in
theorem schema_object_ok (n : Nat) (l_0 : List TAttr) (r : TType) (h0 : schema_object n l_0 = some r) : PCalls Tryz.prog 92 [eL eTAttr l_0] (· = .p (.agg (TType.cs r))) := by
 unfold schema_object at h0
 refine pbodyA good Tryz.func92 rfl rfl rfl fun w0 => mP (fun v : TType => .p (.agg (TType.cs v))) ?_
 refine nx 14 rfl (oLl (f := eTAttr) rfl rfl ?_)
 refine nx 3 rfl (bd h0 fun o27 h1 h0 => ?_)
 refine kE 0 o27 (fun v28 => ⟨[(2, .ptr 2 0), (3, .ptr 3 0)], [(2, [.p (eI 0), .p (.val (.slice none 0 0)), .p (.val (.slice none 0 0))]), (3, [.p (eI 6), .vec 26 3 0 (v28.1.map eTType), .vec 18 1 0 (v28.2.map eS)])]⟩) ?_ ?_
 ·exact nx 7 rfl (mQ (oi h0) rfl (sub_aggs ⟨sr, AV.sub_vec _ _ _ _, AV.sub_vec _ _ _ _, trivial⟩))
 refine lG (fun (q29 : Int × (List TType) × (List Bytes)) => ⟨[(2, .ptr 2 0), (3, .ptr 3 0), (7, .p (eL eTAttr l_0)), (8, .p (eI (l_0.length : Int))), (9, .p (eI q29.1))], [(2, [.p (eI 0), .p (.val (.slice none 0 0)), .p (.val (.slice none 0 0))]), (3, [.p (eI 6), .vec 26 3 0 (q29.2.1.map eTType), .vec 18 1 0 (q29.2.2.map eS)])]⟩) (fun m (q29 : Int × (List TType) × (List Bytes)) => schema_object_l1 n l_0 m q29.1 q29.2.1 q29.2.2) (fun _ => rfl) (0, [], []) h1 (ghost_le (le_mk ⟨er rfl, er rfl, er rfl, er rfl, er rfl, trivial⟩ ⟨⟨_, rfl, ⟨sr, sr, sr, trivial⟩⟩, ⟨_, rfl, ⟨sr, AV.sub_nilvec _ _ _, AV.sub_nilvec _ _ _, trivial⟩⟩, trivial⟩)) ?_
 rintro m ⟨t11, f12, f13⟩ h1
 replace h1 : schema_object_l1 n l_0 (m + 1) t11 f12 f13 = some o27 := h1
 rw [schema_object_l1] at h1
 refine nx 5 rfl (fD [10] h1 rfl (fun c14 h1 => ?_) fun c14 h1 => ?_)
 ·refine nx 6 rfl (oE h1 TAttr.cells_eq rfl rfl (fun _ => rfl) fun hk15 h1 => ?_)
  refine nx 10 rfl (mO rfl (op_bslice eS [(lat l_0 t11).fName] rfl rfl rfl rfl rfl rfl rfl rfl rfl rfl rfl rfl rfl rfl ?_))
  refine cc' h1 fun hk16 h1 => mO rfl (op_appV eS f13 [(lat l_0 t11).fName] rfl rfl rfl rfl rfl rfl rfl rfl rfl rfl rfl rfl rfl (fun _ => rfl) rfl rfl rfl rfl hk16 ?_)
  refine nx 3 rfl (bd h1 fun r17 e18 h1 => ?_)
  refine cc' h1 fun hk19 h1 => mG (gE (t := ⟨[(2, .ptr 2 0), (3, .ptr 3 0), (5, .ptr 5 0), (7, .p (eL eTAttr l_0)), (8, .p (eI (l_0.length : Int))), (9, .p (eI t11))], [(2, [.p (eI 0), .p (.val (.slice none 0 0)), .p (.val (.slice none 0 0))]), (3, [.p (eI 6), .vec 26 3 0 (f12.map eTType), .vec 18 1 0 ((f13 ++ [(lat l_0 t11).fName]).map eS)]), (5, (TAttr.cs (lat l_0 t11)).map .p)]⟩) rfl rfl) (mS ⟨2, [6, 8], (by3 (.some fun i => Nat.beq i 26 || Nat.beq i 26) .none .none), (fun _ => [(2, .ptr 2 0), (3, .ptr 3 0), (5, .ptr 5 0), (7, .p (eL eTAttr l_0)), (8, .p (eI (l_0.length : Int))), (9, .p (eI t11))]), (by3 ([(2, [.p (eI 0), .p (.val (.slice none 0 0)), .p (.val (.slice none 0 0))]), (3, [.p (eI 6), .vec 26 3 0 (f12.map eTType), .vec 18 1 0 ((f13 ++ [(lat l_0 t11).fName]).map eS)]), (5, [.p (eS ((lat l_0 t11).fName)), .p (eI (((lat l_0 t11).fType).fKind)), .p (eL eTType (((lat l_0 t11).fType).fElems)), .p (eL eS (((lat l_0 t11).fType).fNames)), .p (eI ((lat l_0 t11).fMode)), .p (eB ((lat l_0 t11).fReplace)), .p (eB ((lat l_0 t11).fSensitive)), .p (eB ((lat l_0 t11).fVolatile))])]) ([(2, [.p (eI 0), .p (.val (.slice none 0 0)), .p (.val (.slice none 0 0))]), (3, [.p (eI 6), .p (eL eTType f12), .vec 18 1 0 ((f13 ++ [(lat l_0 t11).fName]).map eS)]), (5, [.p (eS ((lat l_0 t11).fName)), .p (eI (((lat l_0 t11).fType).fKind)), .p (eL eTType (((lat l_0 t11).fType).fElems)), .p (eL eS (((lat l_0 t11).fType).fNames)), .p (eI ((lat l_0 t11).fMode)), .p (eB ((lat l_0 t11).fReplace)), .p (eB ((lat l_0 t11).fSensitive)), .p (eB ((lat l_0 t11).fVolatile))])]) ([(3, [.p (eI 6), .vec 26 3 0 ((f12 ++ [r17]).map eTType), .vec 18 1 0 ((f13 ++ [(lat l_0 t11).fName]).map eS)]), (2, [.p (eI 0), .p (.val (.slice none 0 0)), .p (.val (.slice none 0 0))]), (3, [.p (eI 6), .p (eL eTType f12), .vec 18 1 0 ((f13 ++ [(lat l_0 t11).fName]).map eS)]), (5, [.p (eS ((lat l_0 t11).fName)), .p (eI (((lat l_0 t11).fType).fKind)), .p (eL eTType (((lat l_0 t11).fType).fElems)), .p (eL eS (((lat l_0 t11).fType).fNames)), .p (eI ((lat l_0 t11).fMode)), .p (eB ((lat l_0 t11).fReplace)), .p (eB ((lat l_0 t11).fSensitive)), .p (eB ((lat l_0 t11).fVolatile))])]))⟩ rfl rfl rfl ⟨rfl, rfl, rfl, rfl, rfl, rfl, trivial⟩ (lt2 ⟨rfl, rfl, rfl, rfl, rfl, rfl, trivial⟩ ⟨rfl, rfl, rfl, rfl, rfl, rfl, trivial⟩) rfl rfl rfl rfl ?_)
  refine ds_pure (fun _ => .ptr 3 1) rfl rfl rfl (all3 rfl rfl (fun _ => rfl)) (lt2 rfl rfl) (stg_no rfl (stg_yes [(3, _)] ⟨.inl rfl, trivial⟩ (fun sl hsl K hK => one_op rfl (ok_fieldAddrP rfl rfl rfl rfl rfl rfl rfl rfl (hsl _ _ rfl) hK)) (stg_yes [(3, _)] ⟨.inl rfl, trivial⟩ (fun sl hsl K hK => one_op rfl (ok_fieldAddrP rfl rfl rfl rfl rfl rfl rfl rfl (hsl _ _ rfl) hK)) stg_nil))) (ds_pure (by3 (.vec 26 3 0 (f12.map eTType)) (.p (eL eTType f12)) (.p (eL eTType f12))) rfl rfl rfl (all3 rfl rfl (fun _ => rfl)) (lt2 rfl rfl) (stg_no rfl (stg_no rfl (stg_yes [(20, _)] ⟨.inr ⟨0, _, rfl, rfl, rfl⟩, trivial⟩ (fun sl hsl K hK => one_op rfl (ok_loadP1 rfl rfl rfl rfl rfl (hsl _ _ rfl) rfl rfl hK)) stg_nil))) ?_)
  refine ds_pure (fun _ => .ptr 5 1) rfl rfl rfl (all3 rfl rfl (fun _ => rfl)) (lt2 rfl rfl) (stg_no rfl (stg_yes [(5, _)] ⟨.inl rfl, trivial⟩ (fun sl hsl K hK => one_op rfl (ok_fieldAddrP rfl rfl rfl rfl rfl rfl rfl rfl (hsl _ _ rfl) hK)) (stg_yes [(5, _)] ⟨.inl rfl, trivial⟩ (fun sl hsl K hK => one_op rfl (ok_fieldAddrP rfl rfl rfl rfl rfl rfl rfl rfl (hsl _ _ rfl) hK)) stg_nil))) (ds_pure (fun _ => .p (.agg (TType.cs ((lat l_0 t11).fType)))) rfl rfl rfl (all3 rfl rfl (fun _ => rfl)) (lt2 rfl rfl) (stg_no rfl (stg_yes [(22, _)] ⟨.inr ⟨2, _, rfl, rfl, rfl⟩, trivial⟩ (fun sl hsl K hK => one_op rfl (ok_loadPA rfl rfl rfl rfl rfl (hsl _ _ rfl) rfl rfl rfl hK)) (stg_yes [(22, _)] ⟨.inr ⟨2, _, rfl, rfl, rfl⟩, trivial⟩ (fun sl hsl K hK => one_op rfl (ok_loadPA rfl rfl rfl rfl rfl (hsl _ _ rfl) rfl rfl rfl hK)) stg_nil))) ?_)
  refine ds_pure (fun _ => .p (.agg (TType.cs r17))) rfl rfl rfl (all3 rfl rfl (fun _ => rfl)) (lt2 rfl rfl) (stg_no rfl (stg_no rfl (stg_yes [(23, _)] ⟨.inr ⟨3, _, rfl, rfl, rfl⟩, trivial⟩ (fun sl hsl K hK => one_op rfl (ok_callP (schema_typed_ok _ ((lat l_0 t11).fType) _ e18) rfl rfl rfl (args_cons (hsl _ _ rfl) args_nil) ⟨sr, trivial⟩ Tryz.call119 rfl hK)) stg_nil))) (ds_pure (fun _ => .p (eL eTType [r17])) rfl rfl rfl (all3 rfl rfl (fun _ => rfl)) (lt2 rfl rfl) (stg_no rfl (stg_no rfl (stg_yes [(24, _)] ⟨.inr ⟨4, _, rfl, rfl, rfl⟩, trivial⟩ (fun sl hsl K hK => one_op rfl (op_bslice eTType [r17] rfl rfl rfl rfl rfl rfl (elems_cons (hsl _ _ rfl) rfl elems_nil) rfl rfl rfl rfl rfl rfl (by first | rfl | (simp only [List.map_cons, List.map_nil, TType.agg_eq]; done) | (simp only [List.map_cons, List.map_nil, TType.agg_eq]; rfl)) hK)) stg_nil))) ?_)
  refine ds_imp (fun _ => .vec 26 3 0 ((f12 ++ [r17]).map eTType)) [(21, _), (25, _)] rfl ⟨.inr ⟨1, _, rfl, rfl, rfl⟩, .inr ⟨5, _, rfl, rfl, rfl⟩, trivial⟩ rfl rfl (all2 rfl (fun _ => rfl)) (lt2 (fun h => absurd h (by decide)) (fun _ => rfl)) (fun sl hsl K hK => one_op rfl (op_appV eTType f12 [r17] rfl rfl rfl rfl rfl rfl rfl rfl (hsl _ _ rfl) rfl rfl (hsl _ _ rfl) rfl (fun x => congrArg List.length (TType.cells_eq x)) rfl rfl rfl rfl hk19 hK)) (ds_pure (fun _ => .ptr 3 1) rfl rfl rfl (all3 rfl rfl (fun _ => rfl)) (lt2 rfl rfl) (stg_no rfl (stg_yes [(3, _)] ⟨.inl rfl, trivial⟩ (fun sl hsl K hK => one_op rfl (ok_fieldAddrP rfl rfl rfl rfl rfl rfl rfl rfl (hsl _ _ rfl) hK)) (stg_no rfl stg_nil))) ?_)
  refine ds_store [(26, _), (27, _)] rfl ⟨.inr ⟨6, _, rfl, rfl, rfl⟩, .inr ⟨7, _, rfl, rfl, rfl⟩, trivial⟩ rfl (fun sl hsl K hK => one_op rfl (ok_store rfl rfl rfl (hsl _ _ rfl) (hsl _ _ rfl) rfl rfl rfl (Nat.le_of_ble_eq_true rfl) hK)) (ds_nil ?_)
  refine nx 2 rfl (oA h1 rfl rfl fun hk20 h1 => ?_)
  exact nx 2 rfl (eX (t11 + 1, f12 ++ [r17], f13 ++ [(lat l_0 t11).fName]) h1 (gE rfl rfl))
 exact nx 2 rfl (eXi _ (oi h1).symm (gE rfl rfl))

def schema_Type_l1 (n : Nat) (s_0 : TSchema) (r1 : TType) : Nat → Option Unit
 | 0 => none
 | m + 1 =>
 if 0 < (s_0.fNested.length : Int) then
  ck ((0 : Int) ≤ 0 ∧ 0 < (s_0.fNested.length : Int)) <|
  (slices_BinarySearch_string_string n r1.fNames ((lat s_0.fNested 0).fName)).bind fun r5 =>
  none
 else
  some ()

def schema_Type (n : Nat) (s_0 : TSchema) : Option TType :=
 (schema_object n s_0.fAttrs).bind fun r1 =>
 (schema_Type_l1 n s_0 r1 n ).bind fun q7 =>
 some r1

set_option maxHeartbeats 4000000 in
theorem schema_Type_ok (n : Nat) (s_0 : TSchema) (r : TType) (h0 : schema_Type n s_0 = some r) : PCalls Tryz.prog 58 [.agg (TSchema.cs s_0)] (· = .p (.agg (TType.cs r))) := by
 unfold schema_Type at h0
 refine pbodyA good Tryz.func58 rfl rfl rfl fun w0 => mP (fun v : TType => .p (.agg (TType.cs v))) ?_
 refine nx 9 rfl (bd h0 fun r1 e2 h0 => ?_)
 refine oK (schema_object_ok _ s_0.fAttrs _ e2) rfl ⟨sr, trivial⟩ Tryz.call92 rfl (nx 8 rfl ?_)
 refine oLl (f := eTNested) rfl rfl (nx 3 rfl ?_)
 refine bd h0 fun o8 h1 h0 => kE 0 o8 (fun v9 => ⟨[(2, .ptr 2 0), (3, .ptr 3 0)], [(2, [.p (eI 0), .p (.val (.slice none 0 0)), .p (.val (.slice none 0 0))]), (3, (TType.cs r1).map .p)]⟩) ?_ ?_
 ·exact nx 7 rfl (mQ (oi h0) rfl (sr))
 refine lG (fun (q10 : Unit) => ⟨[(2, .ptr 2 0), (3, .ptr 3 0), (12, .p (eL eTNested s_0.fNested)), (13, .p (eI (s_0.fNested.length : Int))), (14, .p (eI 0))], [(2, [.p (eI 0), .p (.val (.slice none 0 0)), .p (.val (.slice none 0 0))]), (3, (TType.cs r1).map .p)]⟩) (fun m (q10 : Unit) => schema_Type_l1 n s_0 r1 m ) (fun _ => rfl) () h1 (gE rfl rfl) ?_
 rintro m _ h1
 replace h1 : schema_Type_l1 n s_0 r1 (m + 1)  = some o8 := h1
 rw [schema_Type_l1] at h1
 refine nx 5 rfl (fD [15] h1 rfl (fun c3 h1 => ?_) fun c3 h1 => ?_)
 ·refine nx 6 rfl (oE h1 TNested.cells_eq rfl rfl (fun _ => rfl) fun hk4 h1 => ?_)
  refine nx 10 rfl (bd h1 fun r5 e6 h1 => ?_)
  refine oK (slices_BinarySearch_string_string_ok _ r1.fNames ((lat s_0.fNested 0).fName) _ e6) rfl ⟨sr, sr, trivial⟩ Tryz.call93 rfl (nx 13 rfl ?_)
  refine mO rfl (op_bslice eS [(lat s_0.fNested 0).fName] rfl rfl rfl rfl rfl rfl rfl rfl rfl rfl rfl rfl rfl rfl ?_)
  cases h1
 exact nx 2 rfl (eXi _ (oi h1).symm (gE rfl rfl))

def strlit_Quote_l1 (s_0 : Bytes) : Nat → Int → (List UInt8) → Option (List UInt8)
 | 0, _, _ => none
 | m + 1, t37, f38 =>
 if t37 < (s_0.length : Int) then
  ck ((0 : Int) ≤ t37 ∧ t37 < (s_0.length : Int)) <|
  (
    if byt s_0 t37 = 10 then
     (strings_Builder_WriteString (TBuilder.mk f38) ([92, 110] : Bytes)).bind fun r42 =>
     some r42.2.2.fbuf
    else
     if byt s_0 t37 = 13 then
      (strings_Builder_WriteString (TBuilder.mk f38) ([92, 114] : Bytes)).bind fun r45 =>
      some r45.2.2.fbuf
     else
      if byt s_0 t37 = 9 then
       (strings_Builder_WriteString (TBuilder.mk f38) ([92, 116] : Bytes)).bind fun r48 =>
       some r48.2.2.fbuf
      else
       (
         if byt s_0 t37 = 34 then
          some true
         else
          some (decide (byt s_0 t37 = 92))
        : Option Bool).bind fun t51 =>
       if t51 = true then
        (strings_Builder_WriteByte (TBuilder.mk f38) 92).bind fun r53 =>
        (strings_Builder_WriteByte (TBuilder.mk r53.2.fbuf) (byt s_0 t37)).bind fun r55 =>
        some r55.2.fbuf
       else
        (
          if byt s_0 t37 < 32 then
           some true
          else
           some (decide (byt s_0 t37 = 127))
         : Option Bool).bind fun t58 =>
        if t58 = true then
         ck (inR (byt s_0 t37)) <|
         (strconv_FormatInt (byt s_0 t37) 16).bind fun r61 =>
         ck (([92, 117, 123] : Bytes).length + r61.length ≤ 9223372036854775807) <|
         ck ((([92, 117, 123] : Bytes) ++ r61).length + ([125] : Bytes).length ≤ 9223372036854775807) <|
         (strings_Builder_WriteString (TBuilder.mk f38) ((([92, 117, 123] : Bytes) ++ r61) ++ ([125] : Bytes))).bind fun r65 =>
         some r65.2.2.fbuf
        else
         (strings_Builder_WriteByte (TBuilder.mk f38) (byt s_0 t37)).bind fun r67 =>
         some r67.2.fbuf
   : Option (List UInt8)).bind fun f69 =>
  ck (inR (t37 + 1)) <|
  strlit_Quote_l1 s_0 m (t37 + 1) f69
 else
  some f38

def strlit_Quote (n : Nat) (s_0 : Bytes) : Option Bytes :=
 (strings_Builder_WriteByte (TBuilder.mk []) 34).bind fun r1 =>
 (strlit_Quote_l1 s_0 n 0 r1.2.fbuf).bind fun f73 =>
 (strings_Builder_WriteByte (TBuilder.mk f73) 34).bind fun r74 =>
 (strings_Builder_String (TBuilder.mk r74.2.fbuf)).bind fun r76 =>
 some r76.1

set_option maxHeartbeats 4000000 in
theorem strlit_Quote_ok (n : Nat) (s_0 : Bytes) (r : Bytes) (h0 : strlit_Quote n s_0 = some r) : PCalls Tryz.prog 140 [eS s_0] (· = .p (eS r)) := by
 unfold strlit_Quote at h0
 refine pbodyA good Tryz.func140 rfl rfl rfl fun w0 => mP (fun v : Bytes => .p (eS v)) ?_
 refine nx 6 rfl (mO rfl (ok_allocB rfl rfl rfl rfl rfl rfl rfl ?_))
 refine nx 3 rfl (bd h0 fun r1 e2 h0 => ?_)
 refine mO rfl (op_callV [3] [890000] 101000 101001 (strings_Builder_WriteByte_ok (TBuilder.mk []) 34 _ e2) rfl rfl rfl rfl rfl ⟨sr, sr, trivial⟩ rfl rfl ⟨⟨_, rfl, ⟨sr, AV.sub_nilvec _ _ _, trivial⟩⟩, trivial⟩ rfl rfl rfl rfl rfl rfl rfl rfl Tryz.call170 rfl rfl ?_)
 refine nx 5 rfl (oLs rfl ?_)
 refine nx 3 rfl (bd h0 fun o82 h1 h0 => ?_)
 refine kE 0 o82 (fun v83 => ⟨[(3, .ptr 3 0)], [(3, [.bptr 140 2 3, .vec 108000 1 (5 + 1) (v83.map eU)])]⟩) ?_ ?_
 ·refine nx 3 rfl (bd h0 fun r74 e75 h0 => ?_)
  refine mO rfl (op_callV [3] [108000] 116000 116001 (strings_Builder_WriteByte_ok (TBuilder.mk o82) 34 _ e75) rfl rfl rfl rfl rfl ⟨sr, sr, trivial⟩ rfl rfl ⟨⟨_, rfl, ⟨sr, sr, trivial⟩⟩, trivial⟩ rfl rfl rfl rfl rfl rfl rfl rfl Tryz.call170 rfl rfl ?_)
  refine nx 3 rfl (bd h0 fun r76 e77 h0 => ?_)
  refine mO rfl (op_callV [3] [116000] 117000 117000 (strings_Builder_String_ok (TBuilder.mk r74.2.fbuf) _ e77) rfl rfl rfl rfl rfl ⟨sr, trivial⟩ rfl rfl ⟨⟨_, rfl, ⟨sr, sr, trivial⟩⟩, trivial⟩ rfl rfl rfl rfl rfl rfl rfl rfl Tryz.call78 rfl rfl ?_)
  exact nx 3 rfl (mQ (oi h0) rfl (sr))
 refine lG (fun (q84 : Int × (List UInt8)) => ⟨[(0, .p (eS s_0)), (3, .ptr 3 0), (8, .p (eI (s_0.length : Int))), (9, .p (eI q84.1))], [(3, [.bptr 140 2 3, .vec 108000 1 (5 + 1) (q84.2.map eU)])]⟩) (fun m (q84 : Int × (List UInt8)) => strlit_Quote_l1 s_0 m q84.1 q84.2) (fun _ => rfl) (0, r1.2.fbuf) h1 (ghost_trans (ghost_ren 101000 108000 rfl rfl rfl rfl rfl) (gE rfl rfl)) ?_
 rintro m ⟨t37, f38⟩ h1
 replace h1 : strlit_Quote_l1 s_0 (m + 1) t37 f38 = some o82 := h1
 rw [strlit_Quote_l1] at h1
 refine nx 5 rfl (fD [10] h1 rfl (fun c39 h1 => ?_) fun c39 h1 => ?_)
 ·refine nx 13 rfl (oI h1 rfl fun hk40 h1 => ?_)
  refine nx 2 rfl (bd h1 fun o85 h2 h1 => ?_)
  refine kN o85 (fun v86 => ⟨[(0, .p (eS s_0)), (3, .ptr 3 0), (8, .p (eI (s_0.length : Int))), (9, .p (eI t37))], [(3, [.bptr 140 2 3, .vec 115000 1 (5 + 1) (v86.map eU)])]⟩) ?_ ?_
  ·refine nx 2 rfl (oA h1 rfl rfl fun hk70 h1 => ?_)
   exact nx 2 rfl (eX (t37 + 1, o85) h1 (ghost_trans (ghost_ren 115000 108000 rfl rfl rfl rfl rfl) (gE rfl rfl)))
  refine nx 7 rfl (fD [17, 19] h2 rfl (fun c41 h2 => ?_) fun c41 h2 => ?_)
  ·refine nx 2 rfl (bd h2 fun r42 e43 h2 => ?_)
   refine mO rfl (op_callV [3] [108000] 109000 109001 (strings_Builder_WriteString_ok (TBuilder.mk f38) ([92, 110] : Bytes) _ e43) rfl rfl rfl rfl rfl ⟨sr, sr, trivial⟩ rfl rfl ⟨⟨_, rfl, ⟨sr, sr, trivial⟩⟩, trivial⟩ rfl rfl rfl rfl rfl rfl rfl rfl Tryz.call77 rfl rfl ?_)
   exact nx 1 rfl (eX _ (oi h2).symm (ghost_trans (ghost_ren 109000 115000 rfl rfl rfl rfl rfl) (gE rfl rfl)))
  refine nx 7 rfl (fD [21, 23] h2 rfl (fun c44 h2 => ?_) fun c44 h2 => ?_)
  ·refine nx 2 rfl (bd h2 fun r45 e46 h2 => ?_)
   refine mO rfl (op_callV [3] [108000] 110000 110001 (strings_Builder_WriteString_ok (TBuilder.mk f38) ([92, 114] : Bytes) _ e46) rfl rfl rfl rfl rfl ⟨sr, sr, trivial⟩ rfl rfl ⟨⟨_, rfl, ⟨sr, sr, trivial⟩⟩, trivial⟩ rfl rfl rfl rfl rfl rfl rfl rfl Tryz.call77 rfl rfl ?_)
   exact nx 1 rfl (eX _ (oi h2).symm (ghost_trans (ghost_ren 110000 115000 rfl rfl rfl rfl rfl) (gE rfl rfl)))
  refine nx 7 rfl (fD [25, 27] h2 rfl (fun c47 h2 => ?_) fun c47 h2 => ?_)
  ·refine nx 2 rfl (bd h2 fun r48 e49 h2 => ?_)
   refine mO rfl (op_callV [3] [108000] 111000 111001 (strings_Builder_WriteString_ok (TBuilder.mk f38) ([92, 116] : Bytes) _ e49) rfl rfl rfl rfl rfl ⟨sr, sr, trivial⟩ rfl rfl ⟨⟨_, rfl, ⟨sr, sr, trivial⟩⟩, trivial⟩ rfl rfl rfl rfl rfl rfl rfl rfl Tryz.call77 rfl rfl ?_)
   exact nx 1 rfl (eX _ (oi h2).symm (ghost_trans (ghost_ren 111000 115000 rfl rfl rfl rfl rfl) (gE rfl rfl)))
  refine nx 2 rfl (bd h2 fun o87 h3 h2 => ?_)
  refine kN o87 (fun v88 => ⟨[(0, .p (eS s_0)), (3, .ptr 3 0), (5, .p (eK .u8 (byt s_0 t37))), (8, .p (eI (s_0.length : Int))), (9, .p (eI t37)), (29, .p (eB v88))], [(3, [.bptr 140 2 3, .vec 108000 1 (5 + 1) (f38.map eU)])]⟩) ?_ ?_
  ·refine nx 1 rfl (fB [29] h2 rfl (fun c52 h2 => ?_) fun c52 h2 => ?_)
   ·refine nx 3 rfl (bd h2 fun r53 e54 h2 => ?_)
    refine mO rfl (op_callV [3] [108000] 112000 112001 (strings_Builder_WriteByte_ok (TBuilder.mk f38) 92 _ e54) rfl rfl rfl rfl rfl ⟨sr, sr, trivial⟩ rfl rfl ⟨⟨_, rfl, ⟨sr, sr, trivial⟩⟩, trivial⟩ rfl rfl rfl rfl rfl rfl rfl rfl Tryz.call170 rfl rfl ?_)
    refine nx 3 rfl (bd h2 fun r55 e56 h2 => ?_)
    refine mO rfl (op_callV [3] [112000] 113000 113001 (strings_Builder_WriteByte_ok (TBuilder.mk r53.2.fbuf) (byt s_0 t37) _ e56) rfl rfl rfl rfl rfl ⟨sr, sr, trivial⟩ rfl rfl ⟨⟨_, rfl, ⟨sr, sr, trivial⟩⟩, trivial⟩ rfl rfl rfl rfl rfl rfl rfl rfl Tryz.call170 rfl rfl ?_)
    exact nx 1 rfl (eX _ (oi h2).symm (ghost_trans (ghost_ren 113000 115000 rfl rfl rfl rfl rfl) (gE rfl rfl)))
   refine nx 2 rfl (bd h2 fun o89 h3 h2 => ?_)
   refine kN o89 (fun v90 => ⟨[(0, .p (eS s_0)), (3, .ptr 3 0), (5, .p (eK .u8 (byt s_0 t37))), (8, .p (eI (s_0.length : Int))), (9, .p (eI t37)), (39, .p (eB v90))], [(3, [.bptr 140 2 3, .vec 108000 1 (5 + 1) (f38.map eU)])]⟩) ?_ ?_
   ·refine nx 1 rfl (fB [39] h2 rfl (fun c59 h2 => ?_) fun c59 h2 => ?_)
    ·refine nx 3 rfl (cc' h2 fun hk60 h2 => ?_)
     refine mO rfl (ok_convInt rfl rfl rfl rfl rfl rfl rfl rfl (wrap_in hk60) ?_)
     refine bd h2 fun r61 e62 h2 => oK (strconv_FormatInt_ok (byt s_0 t37) 16 _ e62) rfl ⟨sr, sr, trivial⟩ Tryz.call171 rfl (oC h2 rfl fun hk63 h2 => ?_)
     refine oC h2 rfl fun hk64 h2 => bd h2 fun r65 e66 h2 => mO rfl (op_callV [3] [108000] 114000 114001 (strings_Builder_WriteString_ok (TBuilder.mk f38) ((([92, 117, 123] : Bytes) ++ r61) ++ ([125] : Bytes)) _ e66) rfl rfl rfl rfl rfl ⟨sr, sr, trivial⟩ rfl rfl ⟨⟨_, rfl, ⟨sr, sr, trivial⟩⟩, trivial⟩ rfl rfl rfl rfl rfl rfl rfl rfl Tryz.call77 rfl rfl ?_)
     exact nx 1 rfl (eX _ (oi h2).symm (ghost_trans (ghost_ren 114000 115000 rfl rfl rfl rfl rfl) (gE rfl rfl)))
    refine nx 3 rfl (bd h2 fun r67 e68 h2 => ?_)
    refine mO rfl (op_callV [3] [108000] 115000 115001 (strings_Builder_WriteByte_ok (TBuilder.mk f38) (byt s_0 t37) _ e68) rfl rfl rfl rfl rfl ⟨sr, sr, trivial⟩ rfl rfl ⟨⟨_, rfl, ⟨sr, sr, trivial⟩⟩, trivial⟩ rfl rfl rfl rfl rfl rfl rfl rfl Tryz.call170 rfl rfl ?_)
    exact nx 1 rfl (eX _ (oi h2).symm (gE rfl rfl))
   refine nx 4 rfl (fD [41, 42] h3 rfl (fun c57 h3 => ?_) fun c57 h3 => ?_)
   ·exact nx 5 rfl (eX _ (oi h3).symm (gE rfl rfl))
   exact nx 5 rfl (eX _ (oi h3).symm (gE rfl rfl))
  refine nx 4 rfl (fD [31, 32] h3 rfl (fun c50 h3 => ?_) fun c50 h3 => ?_)
  ·exact nx 5 rfl (eX _ (oi h3).symm (gE rfl rfl))
  exact nx 5 rfl (eX _ (oi h3).symm (gE rfl rfl))
 exact nx 2 rfl (eXi _ (oi h1).symm (gE rfl rfl))

def number_Format (n_0 : Int) : Option Bytes :=
 (strconv_Itoa n_0).bind fun r1 =>
 some r1

set_option maxHeartbeats 4000000 in
theorem number_Format_ok (n_0 : Int) (r : Bytes) (h0 : number_Format n_0 = some r) : PCalls Tryz.prog 155 [eI n_0] (· = .p (eS r)) := by
 unfold number_Format at h0
 refine pbodyA good Tryz.func155 rfl rfl rfl fun w0 => mP (fun v : Bytes => .p (eS v)) ?_
 refine nx 7 rfl (bd h0 fun r1 e2 h0 => ?_)
 refine oK (strconv_Itoa_ok n_0 _ e2) rfl ⟨sr, trivial⟩ Tryz.call47 rfl (nx 3 rfl ?_)
 exact mQ (oi h0) rfl (sr)

def valuetext_simple (n : Nat) (v_0 : TValue) : Option Bytes :=
 if v_0.fKind = 1 then
  if v_0.fNum = 1 then
   some ([116, 114, 117, 101] : Bytes)
  else
   some ([102, 97, 108, 115, 101] : Bytes)
 else
  if v_0.fKind = 2 then
   (number_Format v_0.fNum).bind fun r4 =>
   some r4
  else
   if v_0.fKind = 3 then
    (strlit_Quote n v_0.fStr).bind fun r7 =>
    some r7
   else
    if v_0.fKind = 4 then
     some ([91, 93] : Bytes)
    else
     if v_0.fKind = 5 then
      some ([123, 125] : Bytes)
     else
      if v_0.fKind = 6 then
       some ([40, 117, 110, 107, 110, 111, 119, 110, 41] : Bytes)
      else
       some ([110, 117, 108, 108] : Bytes)

set_option maxHeartbeats 4000000 in
theorem valuetext_simple_ok (n : Nat) (v_0 : TValue) (r : Bytes) (h0 : valuetext_simple n v_0 = some r) : PCalls Tryz.prog 127 [.agg (TValue.cs v_0)] (· = .p (eS r)) := by
 unfold valuetext_simple at h0
 refine pbodyA good Tryz.func127 rfl rfl rfl fun w0 => mP (fun v : Bytes => .p (eS v)) ?_
 refine nx 17 rfl (fD [5, 6] h0 rfl (fun c1 h0 => ?_) fun c1 h0 => ?_)
 ·refine nx 8 rfl (fD [9] h0 rfl (fun c2 h0 => ?_) fun c2 h0 => ?_)
  ·exact nx 6 rfl (mQ (oi h0) rfl (sr))
  exact nx 7 rfl (mQ (oi h0) rfl (sr))
 refine nx 6 rfl (fD [10, 11] h0 rfl (fun c3 h0 => ?_) fun c3 h0 => ?_)
 ·refine nx 5 rfl (bd h0 fun r4 e5 h0 => ?_)
  refine oK (number_Format_ok v_0.fNum _ e5) rfl ⟨sr, trivial⟩ Tryz.call155 rfl (nx 3 rfl ?_)
  exact mQ (oi h0) rfl (sr)
 refine nx 6 rfl (fD [15, 16] h0 rfl (fun c6 h0 => ?_) fun c6 h0 => ?_)
 ·refine nx 5 rfl (bd h0 fun r7 e8 h0 => ?_)
  refine oK (strlit_Quote_ok _ v_0.fStr _ e8) rfl ⟨sr, trivial⟩ Tryz.call140 rfl (nx 3 rfl ?_)
  exact mQ (oi h0) rfl (sr)
 refine nx 6 rfl (fD [20, 21] h0 rfl (fun c9 h0 => ?_) fun c9 h0 => ?_)
 ·exact nx 6 rfl (mQ (oi h0) rfl (sr))
 refine nx 6 rfl (fD [22, 23] h0 rfl (fun c10 h0 => ?_) fun c10 h0 => ?_)
 ·exact nx 6 rfl (mQ (oi h0) rfl (sr))
 refine nx 6 rfl (fD [24, 25] h0 rfl (fun c11 h0 => ?_) fun c11 h0 => ?_)
 ·exact nx 6 rfl (mQ (oi h0) rfl (sr))
 exact nx 7 rfl (mQ (oi h0) rfl (sr))

def valuetext_signs (v_0 : TValue) : Option (Bytes × Bytes) :=
 if v_0.fKind = 5 then
  some (([123] : Bytes), ([125] : Bytes))
 else
  some (([91] : Bytes), ([93] : Bytes))

set_option maxHeartbeats 4000000 in
theorem valuetext_signs_ok (v_0 : TValue) (r : Bytes × Bytes) (h0 : valuetext_signs v_0 = some r) : PCalls Tryz.prog 128 [.agg (TValue.cs v_0)] (· = .tuple [.p (eS r.1), .p (eS r.2)]) := by
 unfold valuetext_signs at h0
 refine pbodyA good Tryz.func128 rfl rfl rfl fun w0 => mP (fun v : Bytes × Bytes => .tuple [.p (eS v.1), .p (eS v.2)]) ?_
 refine nx 13 rfl (fD [6] h0 rfl (fun c1 h0 => ?_) fun c1 h0 => ?_)
 ·exact nx 7 rfl (mQ (oi h0) rfl (sub_tuple ⟨sr, sr, trivial⟩))
 exact nx 8 rfl (mQ (oi h0) rfl (sub_tuple ⟨sr, sr, trivial⟩))

def valuetext_label (n : Nat) (v_0 : TValue) (i_1 : Int) : Option Bytes :=
 (
   if v_0.fKind = 5 then
    some (decide (i_1 < (v_0.fKeys.length : Int)))
   else
    some false
  : Option Bool).bind fun t2 =>
 if t2 = true then
  ck ((0 : Int) ≤ i_1 ∧ i_1 < (v_0.fKeys.length : Int)) <|
  (strlit_Quote n (lat v_0.fKeys i_1)).bind fun r5 =>
  ck (r5.length + ([58, 32] : Bytes).length ≤ 9223372036854775807) <|
  some (r5 ++ ([58, 32] : Bytes))
 else
  some ([] : Bytes)

set_option maxHeartbeats 4000000 in
theorem valuetext_label_ok (n : Nat) (v_0 : TValue) (i_1 : Int) (r : Bytes) (h0 : valuetext_label n v_0 i_1 = some r) : PCalls Tryz.prog 129 [.agg (TValue.cs v_0), eI i_1] (· = .p (eS r)) := by
 unfold valuetext_label at h0
 refine pbodyA good Tryz.func129 rfl rfl rfl fun w0 => mP (fun v : Bytes => .p (eS v)) ?_
 refine nx 7 rfl (bd h0 fun o9 h1 h0 => ?_)
 refine kN o9 (fun v10 => ⟨[(1, .p (eI i_1)), (2, .ptr 2 0), (14, .p (eB v10))], [(2, (TValue.cs v_0).map .p)]⟩) ?_ ?_
 ·refine nx 1 rfl (fB [14] h0 rfl (fun c3 h0 => ?_) fun c3 h0 => ?_)
  ·refine nx 6 rfl (oE h0 (fun _ => rfl) rfl rfl (fun _ => rfl) fun hk4 h0 => ?_)
   refine nx 1 rfl (bd h0 fun r5 e6 h0 => ?_)
   refine oK (strlit_Quote_ok _ (lat v_0.fKeys i_1) _ e6) rfl ⟨sr, trivial⟩ Tryz.call140 rfl (oC h0 rfl fun hk7 h0 => ?_)
   exact nx 3 rfl (mQ (oi h0) rfl (sr))
  exact nx 7 rfl (mQ (oi h0) rfl (sr))
 refine nx 5 rfl (fD [7, 8] h1 rfl (fun c1 h1 => ?_) fun c1 h1 => ?_)
 ·refine nx 3 rfl (oLl (f := eS) rfl rfl ?_)
  exact nx 3 rfl (eX _ (oi h1).symm (gE rfl rfl))
 exact nx 7 rfl (eX _ (oi h1).symm (gE rfl rfl))

def valuetext_write_l1 (n : Nat) (r_valuetext_write : TBuilder → TValue → Option TBuilder) (v_1 : TValue) : Nat → Int → (List UInt8) → Option (List UInt8)
 | 0, _, _ => none
 | m + 1, t25, f26 =>
 if t25 < (v_1.fItems.length : Int) then
  ck ((0 : Int) ≤ t25 ∧ t25 < (v_1.fItems.length : Int)) <|
  (
    if 0 < t25 then
     (strings_Builder_WriteString (TBuilder.mk f26) ([44, 32] : Bytes)).bind fun r30 =>
     some r30.2.2.fbuf
    else
     some f26
   : Option (List UInt8)).bind fun f32 =>
  (valuetext_label n v_1 t25).bind fun r33 =>
  (strings_Builder_WriteString (TBuilder.mk f32) r33).bind fun r35 =>
  (r_valuetext_write (TBuilder.mk r35.2.2.fbuf) (lat v_1.fItems t25)).bind fun r37 =>
  ck (inR (t25 + 1)) <|
  valuetext_write_l1 n r_valuetext_write v_1 m (t25 + 1) r37.fbuf
 else
  some f26

def valuetext_write : Nat → TBuilder → TValue → Option TBuilder
 | 0, _, _ => none
 | n + 1, b_0, v_1 =>
 if (v_1.fItems.length : Int) = 0 then
  (valuetext_simple n v_1).bind fun r2 =>
  (strings_Builder_WriteString (TBuilder.mk b_0.fbuf) r2).bind fun r4 =>
  some (TBuilder.mk r4.2.2.fbuf)
 else
  (valuetext_signs v_1).bind fun r6 =>
  (strings_Builder_WriteString (TBuilder.mk b_0.fbuf) r6.1).bind fun r8 =>
  (valuetext_write_l1 n (valuetext_write n) v_1 n 0 r8.2.2.fbuf).bind fun f42 =>
  (strings_Builder_WriteString (TBuilder.mk f42) r6.2).bind fun r43 =>
  some (TBuilder.mk r43.2.2.fbuf)

set_option maxHeartbeats 4000000 in
theorem valuetext_write_ok (n : Nat) : ∀ (b_0 : TBuilder) (v_1 : TValue) (r : TBuilder), valuetext_write n b_0 v_1 = some r → OCalls Tryz.prog 97 [.ptr 1000000 0, .p (.agg (TValue.cs v_1))] [(1000000, [.bptr 140 2 1000000, .vec 900000 1 (5 + 1) (b_0.fbuf.map eU)])] (fun x y => x = .tuple [] ∧ y = [(1000000, [.bptr 140 2 1000000, .vec 2000000 1 (5 + 1) (r.fbuf.map eU)])]) := by
 induction n with
 | zero => intro b_0 v_1 r h0; cases h0
 | succ n ih =>
 have ih_valuetext_write_ok := ih
 intro b_0 v_1 r h0
 rw [valuetext_write] at h0
 refine obodyG good [800000] [1000000] Tryz.func97 rfl rfl rfl rfl rfl fun w0 F => mPo (fun v : TBuilder => .tuple []) (fun v => [(1000000, [.bptr 140 2 1000000, .vec 2000000 1 (5 + 1) (v.fbuf.map eU)])]) ?_
 refine nx 9 rfl (oLl (f := eTValue) rfl rfl ?_)
 refine nx 2 rfl (fD [11] h0 rfl (fun c1 h0 => ?_) fun c1 h0 => ?_)
 ·refine nx 5 rfl (bd h0 fun r2 e3 h0 => ?_)
  refine oK (valuetext_simple_ok _ v_1 _ e3) rfl ⟨sr, trivial⟩ Tryz.call127 rfl (bd h0 fun r4 e5 h0 => ?_)
  refine mO rfl (op_callV [1000000] [900000] 101000 101001 (strings_Builder_WriteString_ok (TBuilder.mk b_0.fbuf) r2 _ e5) rfl rfl rfl rfl rfl ⟨sr, sr, trivial⟩ rfl rfl ⟨⟨_, rfl, ⟨sr, sr, trivial⟩⟩, trivial⟩ rfl rfl rfl rfl rfl rfl rfl rfl Tryz.call77 rfl rfl ?_)
  exact nx 2 rfl (mQo (oi h0) (ghost_trans (ghost_ren 101000 800000 rfl rfl rfl rfl rfl) (ghost_refl _)) rfl rfl rfl rfl (sr) ⟨⟨_, rfl, ⟨sr, sr, trivial⟩⟩, trivial⟩)
 refine nx 5 rfl (bd h0 fun r6 e7 h0 => ?_)
 refine oK (valuetext_signs_ok v_1 _ e7) rfl ⟨sr, trivial⟩ Tryz.call128 rfl (nx 10 rfl ?_)
 refine bd h0 fun r8 e9 h0 => mO rfl (op_callV [1000000] [900000] 102000 102001 (strings_Builder_WriteString_ok (TBuilder.mk b_0.fbuf) r6.1 _ e9) rfl rfl rfl rfl rfl ⟨sr, sr, trivial⟩ rfl rfl ⟨⟨_, rfl, ⟨sr, sr, trivial⟩⟩, trivial⟩ rfl rfl rfl rfl rfl rfl rfl rfl Tryz.call77 rfl rfl ?_)
 refine nx 6 rfl (oLl (f := eTValue) rfl rfl ?_)
 refine nx 3 rfl (bd h0 fun o47 h1 h0 => ?_)
 refine kE 0 o47 (fun v48 => ⟨[(0, .ptr 1000000 0), (5, .p (eS r6.2))], [(1000000, [.bptr 140 2 1000000, .vec 105000 1 (5 + 1) (v48.map eU)])]⟩) ?_ ?_
 ·refine nx 4 rfl (bd h0 fun r43 e44 h0 => ?_)
  refine mO rfl (op_callV [1000000] [105000] 109000 109001 (strings_Builder_WriteString_ok (TBuilder.mk o47) r6.2 _ e44) rfl rfl rfl rfl rfl ⟨sr, sr, trivial⟩ rfl rfl ⟨⟨_, rfl, ⟨sr, sr, trivial⟩⟩, trivial⟩ rfl rfl rfl rfl rfl rfl rfl rfl Tryz.call77 rfl rfl ?_)
  exact nx 1 rfl (mQon (oi h0) (ghost_trans (ghost_ren 109000 800000 rfl rfl rfl rfl rfl) (ghost_refl _)) rfl rfl rfl rfl (sr) ⟨⟨_, rfl, ⟨sr, sr, trivial⟩⟩, trivial⟩)
 refine lG (fun (q49 : Int × (List UInt8)) => ⟨[(0, .ptr 1000000 0), (3, .ptr 3 0), (5, .p (eS r6.2)), (25, .p (eL eTValue v_1.fItems)), (26, .p (eI (v_1.fItems.length : Int))), (27, .p (eI q49.1))], [(3, (TValue.cs v_1).map .p), (1000000, [.bptr 140 2 1000000, .vec 105000 1 (5 + 1) (q49.2.map eU)])]⟩) (fun m (q49 : Int × (List UInt8)) => valuetext_write_l1 n (valuetext_write n) v_1 m q49.1 q49.2) (fun _ => rfl) (0, r8.2.2.fbuf) h1 (ghost_trans (ghost_ren 102000 105000 rfl rfl rfl rfl rfl) (gE rfl rfl)) ?_
 rintro m ⟨t25, f26⟩ h1
 replace h1 : valuetext_write_l1 n (valuetext_write n) v_1 (m + 1) t25 f26 = some o47 := h1
 rw [valuetext_write_l1] at h1
 refine nx 5 rfl (fD [28] h1 rfl (fun c27 h1 => ?_) fun c27 h1 => ?_)
 ·refine nx 7 rfl (oE h1 TValue.cells_eq rfl rfl (fun _ => rfl) fun hk28 h1 => ?_)
  refine nx 6 rfl (bd h1 fun o50 h2 h1 => ?_)
  refine kN o50 (fun v51 => ⟨[(0, .ptr 1000000 0), (3, .ptr 3 0), (5, .p (eS r6.2)), (6, .p (eI t25)), (7, .ptr 7 0), (25, .p (eL eTValue v_1.fItems)), (26, .p (eI (v_1.fItems.length : Int))), (27, .p (eI t25))], [(3, (TValue.cs v_1).map .p), (7, (TValue.cs (lat v_1.fItems t25)).map .p), (1000000, [.bptr 140 2 1000000, .vec 106000 1 (5 + 1) (v51.map eU)])]⟩) ?_ ?_
  ·refine nx 6 rfl (bd h1 fun r33 e34 h1 => ?_)
   refine oK (valuetext_label_ok _ v_1 t25 _ e34) rfl ⟨sr, sr, trivial⟩ Tryz.call129 rfl (bd h1 fun r35 e36 h1 => ?_)
   refine mO rfl (op_callV [1000000] [106000] 107000 107001 (strings_Builder_WriteString_ok (TBuilder.mk o50) r33 _ e36) rfl rfl rfl rfl rfl ⟨sr, sr, trivial⟩ rfl rfl ⟨⟨_, rfl, ⟨sr, sr, trivial⟩⟩, trivial⟩ rfl rfl rfl rfl rfl rfl rfl rfl Tryz.call77 rfl rfl ?_)
   refine nx 4 rfl (bd h1 fun r37 e38 h1 => ?_)
   refine mO rfl (op_callV [1000000] [107000] 108000 108001 (ih_valuetext_write_ok (TBuilder.mk r35.2.2.fbuf) (lat v_1.fItems t25) _ e38) rfl rfl rfl rfl rfl ⟨sr, sr, trivial⟩ rfl rfl ⟨⟨_, rfl, ⟨sr, sr, trivial⟩⟩, trivial⟩ rfl rfl rfl rfl rfl rfl rfl rfl Tryz.call97 rfl rfl ?_)
   refine nx 2 rfl (oA h1 rfl rfl fun hk39 h1 => ?_)
   exact nx 2 rfl (eX (t25 + 1, r37.fbuf) h1 (ghost_trans (ghost_ren 108000 105000 rfl rfl rfl rfl rfl) (gE rfl rfl)))
  refine nx 5 rfl (fD [33] h2 rfl (fun c29 h2 => ?_) fun c29 h2 => ?_)
  ·refine nx 3 rfl (bd h2 fun r30 e31 h2 => ?_)
   refine mO rfl (op_callV [1000000] [105000] 106000 106001 (strings_Builder_WriteString_ok (TBuilder.mk f26) ([44, 32] : Bytes) _ e31) rfl rfl rfl rfl rfl ⟨sr, sr, trivial⟩ rfl rfl ⟨⟨_, rfl, ⟨sr, sr, trivial⟩⟩, trivial⟩ rfl rfl rfl rfl rfl rfl rfl rfl Tryz.call77 rfl rfl ?_)
   exact nx 1 rfl (eX _ (oi h2).symm (gE rfl rfl))
  exact nx 2 rfl (eX _ (oi h2).symm (ghost_trans (ghost_ren 105000 106000 rfl rfl rfl rfl rfl) (gE rfl rfl)))
 exact nx 2 rfl (eXi _ (oi h1).symm (gE rfl rfl))

def valuetext_Format (n : Nat) (v_0 : TValue) : Option Bytes :=
 (valuetext_write n (TBuilder.mk []) v_0).bind fun r1 =>
 (strings_Builder_String (TBuilder.mk r1.fbuf)).bind fun r3 =>
 some r3.1

set_option maxHeartbeats 4000000 in
theorem valuetext_Format_ok (n : Nat) (v_0 : TValue) (r : Bytes) (h0 : valuetext_Format n v_0 = some r) : PCalls Tryz.prog 60 [.agg (TValue.cs v_0)] (· = .p (eS r)) := by
 unfold valuetext_Format at h0
 refine pbodyA good Tryz.func60 rfl rfl rfl fun w0 => mP (fun v : Bytes => .p (eS v)) ?_
 refine nx 7 rfl (mO rfl (ok_allocB rfl rfl rfl rfl rfl rfl rfl ?_))
 refine nx 4 rfl (bd h0 fun r1 e2 h0 => ?_)
 refine mO rfl (op_callV [3] [890000] 101000 101001 (valuetext_write_ok _ (TBuilder.mk []) v_0 _ e2) rfl rfl rfl rfl rfl ⟨sr, sr, trivial⟩ rfl rfl ⟨⟨_, rfl, ⟨sr, AV.sub_nilvec _ _ _, trivial⟩⟩, trivial⟩ rfl rfl rfl rfl rfl rfl rfl rfl Tryz.call97 rfl rfl ?_)
 refine nx 3 rfl (bd h0 fun r3 e4 h0 => ?_)
 refine mO rfl (op_callV [3] [101000] 102000 102000 (strings_Builder_String_ok (TBuilder.mk r1.fbuf) _ e4) rfl rfl rfl rfl rfl ⟨sr, trivial⟩ rfl rfl ⟨⟨_, rfl, ⟨sr, sr, trivial⟩⟩, trivial⟩ rfl rfl rfl rfl rfl rfl rfl rfl Tryz.call78 rfl rfl ?_)
 exact nx 3 rfl (mQ (oi h0) rfl (sr))

def explain_values_l1 (n : Nat) (r1 : TValue) (r3 : TType) : Nat → (List Bytes) → Int → Option (List Bytes)
 | 0, _, _ => none
 | m + 1, out22, t23 =>
 if t23 < (r3.fNames.length : Int) then
  (
    ck ((0 : Int) ≤ t23 ∧ t23 < (r3.fNames.length : Int)) <|
    (value_Get n r1 (lat r3.fNames t23)).bind fun r26 =>
    (
      if r26.2 = true then
       some (!decide (r26.1.fKind = 0))
      else
       some false
     : Option Bool).bind fun t29 =>
    if t29 = true then
     ck (([32, 32, 32, 32] : Bytes).length + (lat r3.fNames t23).length ≤ 9223372036854775807) <|
     ck ((([32, 32, 32, 32] : Bytes) ++ (lat r3.fNames t23)).length + ([32, 61, 32] : Bytes).length ≤ 9223372036854775807) <|
     (valuetext_Format n r26.1).bind fun r33 =>
     ck (((([32, 32, 32, 32] : Bytes) ++ (lat r3.fNames t23)) ++ ([32, 61, 32] : Bytes)).length + r33.length ≤ 9223372036854775807) <|
     ck ((out22.length + ([((([32, 32, 32, 32] : Bytes) ++ (lat r3.fNames t23)) ++ ([32, 61, 32] : Bytes)) ++ r33]).length) * 16 ≤ 140737488355328) <|
     some (out22 ++ ([((([32, 32, 32, 32] : Bytes) ++ (lat r3.fNames t23)) ++ ([32, 61, 32] : Bytes)) ++ r33]))
    else
     some out22
   : Option (List Bytes)).bind fun out37 =>
  ck (inR (t23 + 1)) <|
  explain_values_l1 n r1 r3 m out37 (t23 + 1)
 else
  some out22

def explain_values (n : Nat) (s_0 : TSchema) (v_1 : TValue) : Option (List Bytes) :=
 (schema_Mask n s_0 v_1).bind fun r1 =>
 (schema_Type n s_0).bind fun r3 =>
 (explain_values_l1 n r1 r3 n [] 0).bind fun out41 =>
 some out41

set_option maxHeartbeats 4000000 in
theorem explain_values_ok (n : Nat) (s_0 : TSchema) (v_1 : TValue) (r : (List Bytes)) (h0 : explain_values n s_0 v_1 = some r) : PCalls Tryz.prog 28 [.agg (TSchema.cs s_0), .agg (TValue.cs v_1)] (· = .p (eL eS r)) := by
 unfold explain_values at h0
 refine pbodyA good Tryz.func28 rfl rfl rfl fun w0 => mP (fun v : (List Bytes) => .p (eL eS v)) ?_
 refine nx 10 rfl (bd h0 fun r1 e2 h0 => ?_)
 refine oK (schema_Mask_ok _ s_0 v_1 _ e2) rfl ⟨sr, sr, trivial⟩ Tryz.call57 rfl (nx 11 rfl ?_)
 refine bd h0 fun r3 e4 h0 => oK (schema_Type_ok _ s_0 _ e4) rfl ⟨sr, trivial⟩ Tryz.call58 rfl (nx 1 rfl ?_)
 refine oLl (f := eS) rfl rfl (nx 3 rfl ?_)
 refine bd h0 fun o45 h1 h0 => kE 0 o45 (fun v46 => ⟨[(6, .vec 42 1 0 (v46.map eS))], []⟩) ?_ ?_
 ·exact nx 7 rfl (mQ (oi h0) rfl (AV.sub_vec _ _ _ _))
 refine lG (fun (q47 : (List Bytes) × Int) => ⟨[(5, .ptr 5 0), (6, .vec 42 1 0 (q47.1.map eS)), (16, .p (eL eS r3.fNames)), (17, .p (eI (r3.fNames.length : Int))), (18, .p (eI q47.2))], [(5, (TValue.cs r1).map .p)]⟩) (fun m (q47 : (List Bytes) × Int) => explain_values_l1 n r1 r3 m q47.1 q47.2) (fun _ => rfl) ([], 0) h1 (ghost_le (le_mk ⟨er rfl, ⟨_, rfl, AV.sub_nilvec _ _ _⟩, er rfl, er rfl, er rfl, trivial⟩ ⟨⟨_, rfl, ⟨sr, sr, sr, sr, sr, trivial⟩⟩, trivial⟩)) ?_
 rintro m ⟨out22, t23⟩ h1
 replace h1 : explain_values_l1 n r1 r3 (m + 1) out22 t23 = some o45 := h1
 rw [explain_values_l1] at h1
 refine nx 5 rfl (fD [19] h1 rfl (fun c24 h1 => ?_) fun c24 h1 => ?_)
 ·refine nx 3 rfl (bd h1 fun o48 h2 h1 => ?_)
  refine kN o48 (fun v49 => ⟨[(5, .ptr 5 0), (6, .vec 42 1 0 (v49.map eS)), (16, .p (eL eS r3.fNames)), (17, .p (eI (r3.fNames.length : Int))), (18, .p (eI t23))], [(5, (TValue.cs r1).map .p)]⟩) ?_ ?_
  ·refine nx 2 rfl (oA h1 rfl rfl fun hk38 h1 => ?_)
   exact nx 2 rfl (eX (o48, t23 + 1) h1 (gE rfl rfl))
  refine nx 3 rfl (oE h2 (fun _ => rfl) rfl rfl (fun _ => rfl) fun hk25 h2 => ?_)
  refine nx 7 rfl (bd h2 fun r26 e27 h2 => ?_)
  refine oK (value_Get_ok _ r1 (lat r3.fNames t23) _ e27) rfl ⟨sr, sr, trivial⟩ Tryz.call59 rfl (nx 8 rfl ?_)
  refine bd h2 fun o50 h3 h2 => kN o50 (fun v51 => ⟨[(5, .ptr 5 0), (6, .vec 42 1 0 (out22.map eS)), (8, .p (eS (lat r3.fNames t23))), (9, .ptr 9 0), (16, .p (eL eS r3.fNames)), (17, .p (eI (r3.fNames.length : Int))), (18, .p (eI t23)), (33, .p (eB v51))], [(5, (TValue.cs r1).map .p), (9, (TValue.cs r26.1).map .p)]⟩) ?_ ?_
  ·refine nx 1 rfl (fB [33] h2 rfl (fun c30 h2 => ?_) fun c30 h2 => ?_)
   ·refine nx 4 rfl (oC h2 rfl fun hk31 h2 => ?_)
    refine oC h2 rfl fun hk32 h2 => nx 1 rfl (bd h2 fun r33 e34 h2 => ?_)
    refine oK (valuetext_Format_ok _ r26.1 _ e34) rfl ⟨sr, trivial⟩ Tryz.call60 rfl (oC h2 rfl fun hk35 h2 => ?_)
    refine mO rfl (op_bslice eS [((([32, 32, 32, 32] : Bytes) ++ (lat r3.fNames t23)) ++ ([32, 61, 32] : Bytes)) ++ r33] rfl rfl rfl rfl rfl rfl rfl rfl rfl rfl rfl rfl rfl rfl ?_)
    refine cc' h2 fun hk36 h2 => mO rfl (op_appV eS out22 ([((([32, 32, 32, 32] : Bytes) ++ (lat r3.fNames t23)) ++ ([32, 61, 32] : Bytes)) ++ r33]) rfl rfl rfl rfl rfl rfl rfl rfl rfl rfl rfl rfl rfl (fun _ => rfl) rfl rfl rfl rfl hk36 ?_)
    exact nx 2 rfl (eX _ (oi h2).symm (gE rfl rfl))
   exact nx 2 rfl (eX _ (oi h2).symm (gE rfl rfl))
  refine nx 3 rfl (fB [10, 27, 28, 29] h3 rfl (fun c28 h3 => ?_) fun c28 h3 => ?_)
  ·exact nx 5 rfl (eX _ (oi h3).symm (gE rfl rfl))
  exact nx 5 rfl (eX _ (oi h3).symm (gE rfl rfl))
 exact nx 2 rfl (eXi _ (oi h1).symm (gE rfl rfl))

def schema_names (n : Nat) (s_0 : TSchema) : Option (List Bytes) :=
 (schema_Type n s_0).bind fun r1 =>
 some r1.fNames

set_option maxHeartbeats 4000000 in
theorem schema_names_ok (n : Nat) (s_0 : TSchema) (r : (List Bytes)) (h0 : schema_names n s_0 = some r) : PCalls Tryz.prog 98 [.agg (TSchema.cs s_0)] (· = .p (eL eS r)) := by
 unfold schema_names at h0
 refine pbodyA good Tryz.func98 rfl rfl rfl fun w0 => mP (fun v : (List Bytes) => .p (eL eS v)) ?_
 refine nx 8 rfl (bd h0 fun r1 e2 h0 => ?_)
 refine oK (schema_Type_ok _ s_0 _ e2) rfl ⟨sr, trivial⟩ Tryz.call58 rfl (nx 4 rfl ?_)
 exact mQ (oi h0) rfl (sr)

def slices_Equal_string_string_l1 (s1_0 : List Bytes) (s2_1 : List Bytes) : Nat → Int → Option (Unit ⊕ Bool)
 | 0, _ => none
 | m + 1, t8 =>
 if t8 < (s1_0.length : Int) then
  ck ((0 : Int) ≤ t8 ∧ t8 < (s1_0.length : Int)) <|
  ck ((0 : Int) ≤ t8 ∧ t8 < (s2_1.length : Int)) <|
  if lat s1_0 t8 = lat s2_1 t8 then
   ck (inR (t8 + 1)) <|
   slices_Equal_string_string_l1 s1_0 s2_1 m (t8 + 1)
  else
   some (.inr false)
 else
  some (.inl ())

def slices_Equal_string_string (n : Nat) (s1_0 : List Bytes) (s2_1 : List Bytes) : Option Bool :=
 if (s1_0.length : Int) = (s2_1.length : Int) then
  jn (slices_Equal_string_string_l1 s1_0 s2_1 n 0) fun q15 =>
  some true
 else
  some false

set_option maxHeartbeats 4000000 in
theorem slices_Equal_string_string_ok (n : Nat) (s1_0 : List Bytes) (s2_1 : List Bytes) (r : Bool) (h0 : slices_Equal_string_string n s1_0 s2_1 = some r) : PCalls Tryz.prog 73 [eL eS s1_0, eL eS s2_1] (· = .p (eB r)) := by
 unfold slices_Equal_string_string at h0
 refine pbodyA good Tryz.func73 rfl rfl rfl fun w0 => mP (fun v : Bool => .p (eB v)) ?_
 refine nx 8 rfl (oLl (f := eS) rfl rfl ?_)
 refine nx 1 rfl (oLl (f := eS) rfl rfl ?_)
 refine nx 2 rfl (fN [10] h0 rfl (fun c1 h0 => ?_) fun c1 h0 => ?_)
 ·refine nx 6 rfl (oLl (f := eS) rfl rfl ?_)
  refine nx 3 rfl ?_
  obtain ⟨o16, h1, hL0, hR0⟩ := jn_cut h0
  refine kEx 0 (fun v17 : Unit => o16 = .inl v17) (fun v17 => ⟨[], []⟩) (fun v17 hv => ?_) ?_
  ·have h0 := hL0 _ hv
   exact nx 6 rfl (mQ (oi h0) rfl (sr))
  refine lG (fun (q18 : Int) => ⟨[(0, .p (eL eS s1_0)), (1, .p (eL eS s2_1)), (12, .p (eI (s1_0.length : Int))), (13, .p (eI q18))], []⟩) (fun m (q18 : Int) => slices_Equal_string_string_l1 s1_0 s2_1 m q18) (fun _ => rfl) 0 h1 (gE rfl rfl) ?_
  rintro m t8 h1
  replace h1 : slices_Equal_string_string_l1 s1_0 s2_1 (m + 1) t8 = some o16 := h1
  rw [slices_Equal_string_string_l1] at h1
  refine nx 5 rfl (fD [14] h1 rfl (fun c9 h1 => ?_) fun c9 h1 => ?_)
  ·refine nx 10 rfl (cc' h1 fun hk10 h1 => ?_)
   refine cc' h1 fun hk11 h1 => mD [(0, .p (eL eS s1_0)), (1, .p (eL eS s2_1)), (5, .p (eI t8)), (12, .p (eI (s1_0.length : Int))), (13, .p (eI t8))] rfl ⟨rfl, rfl, rfl, rfl, rfl, trivial⟩ rfl (dR 2 rfl ?_)
   refine dq (.rptr [eS (lat s1_0 t8)]) [16,17] rfl (fun _ e _ q => one_op rfl (op_at (f := eS) (l := s1_0) (fun x => [eS x]) rfl rfl rfl rfl rfl rfl (e _ _ rfl) rfl (e _ _ rfl) hk10 (fun _ => rfl) (fun _ => rfl) q)) rfl (dR 3 rfl ?_)
   refine dq (.rptr [eS (lat s2_1 t8)]) [20,21] rfl (fun _ e _ q => one_op rfl (op_at (f := eS) (l := s2_1) (fun x => [eS x]) rfl rfl rfl rfl rfl rfl (e _ _ rfl) rfl (e _ _ rfl) hk11 (fun _ => rfl) (fun _ => rfl) q)) rfl (dR 1 rfl ?_)
   refine dq (.p (eB (!decide (lat s1_0 t8 = lat s2_1 t8)))) [19,23] rfl (fun _ e _ q => one_op rfl (ok_cmpS rfl rfl rfl (e _ _ rfl) (e _ _ rfl) rfl q)) rfl (dE rfl ?_)
   refine nx 1 rfl (fN [24] h1 rfl (fun c12 h1 => ?_) fun c12 h1 => ?_)
   ·refine nx 3 rfl (oA h1 rfl rfl fun hk13 h1 => ?_)
    exact nx 2 rfl (eX (t8 + 1) h1 (gE rfl rfl))
   exact nx 6 rfl (mQ (hR0 _ (oi h1).symm) rfl (sr))
  exact nx 2 rfl (eXi _ (oi h1).symm (gE rfl rfl))
 exact nx 6 rfl (mQ (oi h0) rfl (sr))

def slices_EqualFunc_api_Value_api_Value_api_Value_api_Value_l1 (s1_0 : List TValue) (s2_1 : List TValue) (eq_2 : TValue → TValue → Option Bool) : Nat → Int → Option (Unit ⊕ Bool)
 | 0, _ => none
 | m + 1, t10 =>
 if t10 < (s1_0.length : Int) then
  ck ((0 : Int) ≤ t10 ∧ t10 < (s1_0.length : Int)) <|
  ck ((0 : Int) ≤ t10 ∧ t10 < (s2_1.length : Int)) <|
  (eq_2 (lat s1_0 t10) (lat s2_1 t10)).bind fun r14 =>
  if (!r14) = true then
   some (.inr false)
  else
   ck (inR (t10 + 1)) <|
   slices_EqualFunc_api_Value_api_Value_api_Value_api_Value_l1 s1_0 s2_1 eq_2 m (t10 + 1)
 else
  some (.inl ())

def slices_EqualFunc_api_Value_api_Value_api_Value_api_Value (n : Nat) (s1_0 : List TValue) (s2_1 : List TValue) (eq_2 : TValue → TValue → Option Bool) : Option Bool :=
 if (s1_0.length : Int) = (s2_1.length : Int) then
  jn (slices_EqualFunc_api_Value_api_Value_api_Value_api_Value_l1 s1_0 s2_1 eq_2 n 0) fun q19 =>
  some true
 else
  some false

set_option maxHeartbeats 4000000 in
theorem slices_EqualFunc_api_Value_api_Value_api_Value_api_Value_ok (n : Nat) (s1_0 : List TValue) (s2_1 : List TValue) (eq_2 : TValue → TValue → Option Bool) (F_eq_2 : FuncId) (C_eq_2 : List AV) (K_eq_2 : AV.mapA.go (fun _ => none) C_eq_2 = some C_eq_2) (E_eq_2 : ∀ vs w, (callFunc F_eq_2 vs).run Tryz.prog w = .ok (.enter F_eq_2 vs) w) (H_eq_2 : ∀ (x0 : TValue) (x1 : TValue) r, eq_2 x0 x1 = some r → QCalls Tryz.prog F_eq_2 ([.p (.agg (TValue.cs x0)), .p (.agg (TValue.cs x1))] ++ C_eq_2) (· = .p (eB r))) (r : Bool) (h0 : slices_EqualFunc_api_Value_api_Value_api_Value_api_Value n s1_0 s2_1 eq_2 = some r) : QCalls Tryz.prog 74 [.p (eL eTValue s1_0), .p (eL eTValue s2_1), .func (.func F_eq_2) C_eq_2] (· = .p (eB r)) := by
 unfold slices_EqualFunc_api_Value_api_Value_api_Value_api_Value at h0
 refine qbodyA good Tryz.func74 rfl rfl rfl fun w0 => mP (fun v : Bool => .p (eB v)) ?_
 refine nx 8 rfl (oLl (f := eTValue) rfl rfl ?_)
 refine nx 1 rfl (oLl (f := eTValue) rfl rfl ?_)
 refine nx 2 rfl (fN [14] h0 rfl (fun c1 h0 => ?_) fun c1 h0 => ?_)
 ·refine nx 6 rfl (oLl (f := eTValue) rfl rfl ?_)
  refine nx 3 rfl ?_
  obtain ⟨o20, h1, hL0, hR0⟩ := jn_cut h0
  refine kEx 0 (fun v21 : Unit => o20 = .inl v21) (fun v21 => ⟨[], []⟩) (fun v21 hv => ?_) ?_
  ·have h0 := hL0 _ hv
   exact nx 6 rfl (mQ (oi h0) rfl (sr))
  refine lG (fun (q22 : Int) => ⟨[(1, .p (eL eTValue s2_1)), (2, .func (.func F_eq_2) C_eq_2), (15, .p (eL eTValue s1_0)), (16, .p (eI (s1_0.length : Int))), (17, .p (eI q22))], []⟩) (fun m (q22 : Int) => slices_EqualFunc_api_Value_api_Value_api_Value_api_Value_l1 s1_0 s2_1 eq_2 m q22) (fun _ => rfl) 0 h1 (gE rfl rfl) ?_
  rintro m t10 h1
  replace h1 : slices_EqualFunc_api_Value_api_Value_api_Value_api_Value_l1 s1_0 s2_1 eq_2 (m + 1) t10 = some o20 := h1
  rw [slices_EqualFunc_api_Value_api_Value_api_Value_api_Value_l1] at h1
  refine nx 5 rfl (fD [18] h1 rfl (fun c11 h1 => ?_) fun c11 h1 => ?_)
  ·refine nx 7 rfl (oE h1 TValue.cells_eq rfl rfl (fun _ => rfl) fun hk12 h1 => ?_)
   refine nx 9 rfl (oE h1 TValue.cells_eq rfl rfl (fun _ => rfl) fun hk13 h1 => ?_)
   refine nx 9 rfl (bd h1 fun r14 e15 h1 => ?_)
   refine mG (gFn 2 C_eq_2 rfl (by simp only [demL_cap K_eq_2])) (mG (gFn 26 C_eq_2 rfl (by simp only [demL_cap K_eq_2])) ?_)
   refine mO rfl (ok_callF (q := [.p (.agg (TValue.cs (lat s1_0 t10))), .p (.agg (TValue.cs (lat s2_1 t10)))]) (H_eq_2 (lat s1_0 t10) (lat s2_1 t10) _ e15) rfl rfl rfl rfl K_eq_2 rfl rfl ⟨sr, sr, trivial⟩ E_eq_2 rfl ?_)
   refine nx 2 rfl (fB [30] h1 rfl (fun c16 h1 => ?_) fun c16 h1 => ?_)
   ·exact nx 6 rfl (mQ (hR0 _ (oi h1).symm) rfl (sr))
   refine nx 3 rfl (oA h1 rfl rfl fun hk17 h1 => ?_)
   exact nx 2 rfl (eX (t10 + 1) h1 (gE rfl rfl))
  exact nx 2 rfl (eXi _ (oi h1).symm (gE rfl rfl))
 exact nx 6 rfl (mQ (oi h0) rfl (sr))

def value_Equal : Nat → TValue → TValue → Option Bool
 | 0, _, _ => none
 | n + 1, a_0, b_1 =>
 (
   if a_0.fKind = b_1.fKind then
    if a_0.fNum = b_1.fNum then
     if a_0.fStr = b_1.fStr then
      (slices_Equal_string_string n a_0.fKeys b_1.fKeys).bind fun r4 =>
      if r4 = true then
       (slices_EqualFunc_api_Value_api_Value_api_Value_api_Value n a_0.fItems b_1.fItems (fun x0 x1 => (value_Equal n) x0 x1)).bind fun r8 =>
       some r8
      else
       some false
     else
      some false
    else
     some false
   else
    some false
  : Option Bool).bind fun t10 =>
 some t10

set_option maxHeartbeats 4000000 in
theorem value_Equal_ok (n : Nat) : ∀ (a_0 : TValue) (b_1 : TValue) (r : Bool), value_Equal n a_0 b_1 = some r → PCalls Tryz.prog 41 [.agg (TValue.cs a_0), .agg (TValue.cs b_1)] (· = .p (eB r)) := by
 induction n with
 | zero => intro a_0 b_1 r h0; cases h0
 | succ n ih =>
 have ih_value_Equal_ok := ih
 intro a_0 b_1 r h0
 rw [value_Equal] at h0
 refine pbodyA good Tryz.func41 rfl rfl rfl fun w0 => mP (fun v : Bool => .p (eB v)) ?_
 refine nx 7 rfl (bd h0 fun o12 h1 h0 => ?_)
 refine kN o12 (fun v13 => ⟨[(4, .p (eB v13))], []⟩) ?_ ?_
 ·exact nx 2 rfl (mQ (oi h0) rfl (sr))
 refine nx 7 rfl (fD [9, 10] h1 rfl (fun c1 h1 => ?_) fun c1 h1 => ?_)
 ·refine nx 7 rfl (fD [15, 16, 17] h1 rfl (fun c2 h1 => ?_) fun c2 h1 => ?_)
  ·refine nx 4 rfl (oS rfl rfl ?_)
   refine nx 2 rfl (fD [22, 23, 24] h1 rfl (fun c3 h1 => ?_) fun c3 h1 => ?_)
   ·refine nx 4 rfl (bd h1 fun r4 e5 h1 => ?_)
    refine oK (slices_Equal_string_string_ok _ a_0.fKeys b_1.fKeys _ e5) rfl ⟨sr, sr, trivial⟩ Tryz.call73 rfl (nx 2 rfl ?_)
    refine fB [29, 30, 31] h1 rfl (fun c6 h1 => ?_) fun c6 h1 => ?_
    ·refine nx 4 rfl (bd h1 fun r8 e9 h1 => ?_)
     refine mO rfl (ok_callQ (slices_EqualFunc_api_Value_api_Value_api_Value_api_Value_ok _ a_0.fItems b_1.fItems (fun x0 x1 => (value_Equal n) x0 x1) 41 [] rfl Tryz.call41 (fun x0 x1 r h => (ih_value_Equal_ok x0 x1 r h).q) _ e9) rfl rfl rfl rfl (mapAgo_cons rfl (mapAgo_cons rfl (mapAgo_cons (mapA_func rfl) mapAgo_nil))) ⟨sr, sr, sr, trivial⟩ Tryz.call74 rfl ?_)
     exact nx 3 rfl (eX _ (oi h1).symm (gE rfl rfl))
    exact nx 8 rfl (eX _ (oi h1).symm (gE rfl rfl))
   exact nx 15 rfl (eX _ (oi h1).symm (gE rfl rfl))
  exact nx 22 rfl (eX _ (oi h1).symm (gE rfl rfl))
 exact nx 29 rfl (eX _ (oi h1).symm (gE rfl rfl))

def slices_IndexFunc_api_Value_api_Value_l1 (s_0 : List TValue) (f_1 : TValue → Option Bool) : Nat → Int → Option (Unit ⊕ Int)
 | 0, _ => none
 | m + 1, t8 =>
 if t8 < (s_0.length : Int) then
  ck ((0 : Int) ≤ t8 ∧ t8 < (s_0.length : Int)) <|
  (f_1 (lat s_0 t8)).bind fun r11 =>
  if r11 = true then
   some (.inr t8)
  else
   ck (inR (t8 + 1)) <|
   slices_IndexFunc_api_Value_api_Value_l1 s_0 f_1 m (t8 + 1)
 else
  some (.inl ())

def slices_IndexFunc_api_Value_api_Value (n : Nat) (s_0 : List TValue) (f_1 : TValue → Option Bool) : Option Int :=
 jn (slices_IndexFunc_api_Value_api_Value_l1 s_0 f_1 n 0) fun q16 =>
 some (-1)

set_option maxHeartbeats 4000000 in
theorem slices_IndexFunc_api_Value_api_Value_ok (n : Nat) (s_0 : List TValue) (f_1 : TValue → Option Bool) (F_f_1 : FuncId) (C_f_1 : List AV) (K_f_1 : AV.mapA.go (fun _ => none) C_f_1 = some C_f_1) (E_f_1 : ∀ vs w, (callFunc F_f_1 vs).run Tryz.prog w = .ok (.enter F_f_1 vs) w) (H_f_1 : ∀ (x0 : TValue) r, f_1 x0 = some r → QCalls Tryz.prog F_f_1 ([.p (.agg (TValue.cs x0))] ++ C_f_1) (· = .p (eB r))) (r : Int) (h0 : slices_IndexFunc_api_Value_api_Value n s_0 f_1 = some r) : QCalls Tryz.prog 184 [.p (eL eTValue s_0), .func (.func F_f_1) C_f_1] (· = .p (eI r)) := by
 unfold slices_IndexFunc_api_Value_api_Value at h0
 refine qbodyA good Tryz.func184 rfl rfl rfl fun w0 => mP (fun v : Int => .p (eI v)) ?_
 refine nx 8 rfl (oLl (f := eTValue) rfl rfl ?_)
 refine nx 3 rfl ?_
 obtain ⟨o17, h1, hL0, hR0⟩ := jn_cut h0
 refine kEx 0 (fun v18 : Unit => o17 = .inl v18) (fun v18 => ⟨[], []⟩) (fun v18 hv => ?_) ?_
 ·have h0 := hL0 _ hv
  exact nx 6 rfl (mQ (oi h0) rfl (sr))
 refine lG (fun (q19 : Int) => ⟨[(0, .p (eL eTValue s_0)), (1, .func (.func F_f_1) C_f_1), (7, .p (eI (s_0.length : Int))), (8, .p (eI q19))], []⟩) (fun m (q19 : Int) => slices_IndexFunc_api_Value_api_Value_l1 s_0 f_1 m q19) (fun _ => rfl) 0 h1 (gE rfl rfl) ?_
 rintro m t8 h1
 replace h1 : slices_IndexFunc_api_Value_api_Value_l1 s_0 f_1 (m + 1) t8 = some o17 := h1
 rw [slices_IndexFunc_api_Value_api_Value_l1] at h1
 refine nx 5 rfl (fD [9] h1 rfl (fun c9 h1 => ?_) fun c9 h1 => ?_)
 ·refine nx 14 rfl (oE h1 TValue.cells_eq rfl rfl (fun _ => rfl) fun hk10 h1 => ?_)
  refine nx 1 rfl (bd h1 fun r11 e12 h1 => ?_)
  refine mG (gFn 1 C_f_1 rfl (by simp only [demL_cap K_f_1])) (mG (gFn 11 C_f_1 rfl (by simp only [demL_cap K_f_1])) ?_)
  refine mO rfl (ok_callF (q := [.p (.agg (TValue.cs (lat s_0 t8)))]) (H_f_1 (lat s_0 t8) _ e12) rfl rfl rfl rfl K_f_1 rfl rfl ⟨sr, trivial⟩ E_f_1 rfl ?_)
  refine nx 1 rfl (fB [16] h1 rfl (fun c13 h1 => ?_) fun c13 h1 => ?_)
  ·exact nx 7 rfl (mQ (hR0 _ (oi h1).symm) rfl (sr))
  refine nx 3 rfl (oA h1 rfl rfl fun hk14 h1 => ?_)
  exact nx 2 rfl (eX (t8 + 1) h1 (gE rfl rfl))
 exact nx 2 rfl (eXi _ (oi h1).symm (gE rfl rfl))

def slices_ContainsFunc_api_Value_api_Value (n : Nat) (s_0 : List TValue) (f_1 : TValue → Option Bool) : Option Bool :=
 (slices_IndexFunc_api_Value_api_Value n s_0 f_1).bind fun r1 =>
 some (decide (0 ≤ r1))

set_option maxHeartbeats 4000000 in
theorem slices_ContainsFunc_api_Value_api_Value_ok (n : Nat) (s_0 : List TValue) (f_1 : TValue → Option Bool) (F_f_1 : FuncId) (C_f_1 : List AV) (K_f_1 : AV.mapA.go (fun _ => none) C_f_1 = some C_f_1) (E_f_1 : ∀ vs w, (callFunc F_f_1 vs).run Tryz.prog w = .ok (.enter F_f_1 vs) w) (H_f_1 : ∀ (x0 : TValue) r, f_1 x0 = some r → QCalls Tryz.prog F_f_1 ([.p (.agg (TValue.cs x0))] ++ C_f_1) (· = .p (eB r))) (r : Bool) (h0 : slices_ContainsFunc_api_Value_api_Value n s_0 f_1 = some r) : QCalls Tryz.prog 156 [.p (eL eTValue s_0), .func (.func F_f_1) C_f_1] (· = .p (eB r)) := by
 unfold slices_ContainsFunc_api_Value_api_Value at h0
 refine qbodyA good Tryz.func156 rfl rfl rfl fun w0 => mP (fun v : Bool => .p (eB v)) ?_
 refine nx 8 rfl (bd h0 fun r1 e2 h0 => ?_)
 refine mO rfl (ok_callQ (slices_IndexFunc_api_Value_api_Value_ok _ s_0 f_1 F_f_1 C_f_1 K_f_1 E_f_1 H_f_1 _ e2) rfl rfl rfl rfl (mapAgo_cons rfl (mapAgo_cons (mapA_func K_f_1) mapAgo_nil)) ⟨sr, sr, trivial⟩ Tryz.call184 rfl ?_)
 exact nx 4 rfl (mQ (oi h0) rfl (sr))

mutual
def value_Known : Nat → TValue → Option Bool
 | 0, _ => none
 | n + 1, v_0 =>
 (
   if v_0.fKind = 6 then
    some false
   else
    (slices_ContainsFunc_api_Value_api_Value n v_0.fItems (fun x0 => (value_Known_1 n) x0)).bind fun r3 =>
    some (!r3)
  : Option Bool).bind fun t5 =>
 some t5
def value_Known_1 : Nat → TValue → Option Bool
 | 0, _ => none
 | n + 1, x_0 =>
 ((value_Known n) x_0).bind fun r1 =>
 some (!r1)
end

set_option maxHeartbeats 4000000 in
theorem value_Known_all (n : Nat) : (∀ (v_0 : TValue) (r : Bool), value_Known n v_0 = some r → PCalls Tryz.prog 130 [.agg (TValue.cs v_0)] (· = .p (eB r))) ∧ (∀ (x_0 : TValue) (r : Bool), value_Known_1 n x_0 = some r → PCalls Tryz.prog 157 [.agg (TValue.cs x_0)] (· = .p (eB r))) := by
 induction n with
 | zero => exact ⟨(by intro v_0 r h0; cases h0), (by intro x_0 r h0; cases h0)⟩
 | succ n ih =>
 obtain ⟨ih_value_Known_ok, ih_value_Known_1_ok⟩ := ih
 refine ⟨?_, ?_⟩
 ·skip
  intro v_0 r h0
  rw [value_Known] at h0
  refine pbodyA good Tryz.func130 rfl rfl rfl fun w0 => mP (fun v : Bool => .p (eB v)) ?_
  refine nx 6 rfl (bd h0 fun o7 h1 h0 => ?_)
  refine kN o7 (fun v8 => ⟨[(2, .p (eB v8))], []⟩) ?_ ?_
  ·exact nx 2 rfl (mQ (oi h0) rfl (sr))
  refine nx 5 rfl (fN [5, 6] h1 rfl (fun c1 h1 => ?_) fun c1 h1 => ?_)
  ·exact nx 7 rfl (eX _ (oi h1).symm (gE rfl rfl))
  refine nx 2 rfl (bd h1 fun r3 e4 h1 => ?_)
  refine mO rfl (ok_callQ (slices_ContainsFunc_api_Value_api_Value_ok _ v_0.fItems (fun x0 => (value_Known_1 n) x0) 157 [] rfl Tryz.call157 (fun x0 r h => (ih_value_Known_1_ok x0 r h).q) _ e4) rfl rfl rfl rfl (mapAgo_cons rfl (mapAgo_cons (mapA_func rfl) mapAgo_nil)) ⟨sr, sr, trivial⟩ Tryz.call156 rfl ?_)
  exact nx 4 rfl (eX _ (oi h1).symm (gE rfl rfl))
 ·skip
  intro x_0 r h0
  rw [value_Known_1] at h0
  refine pbodyA good Tryz.func157 rfl rfl rfl fun w0 => mP (fun v : Bool => .p (eB v)) ?_
  refine nx 8 rfl (bd h0 fun r1 e2 h0 => ?_)
  refine oK (ih_value_Known_ok x_0 _ e2) rfl ⟨sr, trivial⟩ Tryz.call130 rfl (nx 4 rfl ?_)
  exact mQ (oi h0) rfl (sr)

theorem value_Known_ok (n : Nat) : ∀ (v_0 : TValue) (r : Bool), value_Known n v_0 = some r → PCalls Tryz.prog 130 [.agg (TValue.cs v_0)] (· = .p (eB r)) := (value_Known_all n).1

theorem value_Known_1_ok (n : Nat) : ∀ (x_0 : TValue) (r : Bool), value_Known_1 n x_0 = some r → PCalls Tryz.prog 157 [.agg (TValue.cs x_0)] (· = .p (eB r)) := (value_Known_all n).2

def schema_differ (n : Nat) (a_0 : TValue) (b_1 : TValue) : Option Bool :=
 (
   (value_Equal n a_0 b_1).bind fun r1 =>
   if (!r1) = true then
    some true
   else
    (value_Known n a_0).bind fun r4 =>
    if (!r4) = true then
     some true
    else
     (value_Known n b_1).bind fun r7 =>
     some (!r7)
  : Option Bool).bind fun t9 =>
 some t9

set_option maxHeartbeats 4000000 in
theorem schema_differ_ok (n : Nat) (a_0 : TValue) (b_1 : TValue) (r : Bool) (h0 : schema_differ n a_0 b_1 = some r) : PCalls Tryz.prog 99 [.agg (TValue.cs a_0), .agg (TValue.cs b_1)] (· = .p (eB r)) := by
 unfold schema_differ at h0
 refine pbodyA good Tryz.func99 rfl rfl rfl fun w0 => mP (fun v : Bool => .p (eB v)) ?_
 refine nx 7 rfl (bd h0 fun o11 h1 h0 => ?_)
 refine kN o11 (fun v12 => ⟨[(4, .p (eB v12))], []⟩) ?_ ?_
 ·exact nx 2 rfl (mQ (oi h0) rfl (sr))
 refine nx 3 rfl (bd h1 fun r1 e2 h1 => ?_)
 refine oK (value_Equal_ok _ a_0 b_1 _ e2) rfl ⟨sr, sr, trivial⟩ Tryz.call41 rfl (nx 2 rfl ?_)
 refine fB [8, 9] h1 rfl (fun c3 h1 => ?_) fun c3 h1 => ?_
 ·exact nx 11 rfl (eX _ (oi h1).symm (gE rfl rfl))
 refine nx 1 rfl (bd h1 fun r4 e5 h1 => ?_)
 refine oK (value_Known_ok _ a_0 _ e5) rfl ⟨sr, trivial⟩ Tryz.call130 rfl (nx 3 rfl ?_)
 refine fB [12, 13, 14] h1 rfl (fun c6 h1 => ?_) fun c6 h1 => ?_
 ·exact nx 6 rfl (eX _ (oi h1).symm (gE rfl rfl))
 refine nx 1 rfl (bd h1 fun r7 e8 h1 => ?_)
 refine oK (value_Known_ok _ b_1 _ e8) rfl ⟨sr, trivial⟩ Tryz.call130 rfl (nx 4 rfl ?_)
 exact eX _ (oi h1).symm (gE rfl rfl)

def schema_get (n : Nat) (v_0 : TValue) (name_1 : Bytes) : Option TValue :=
 (value_Get n v_0 name_1).bind fun r1 =>
 some r1.1

set_option maxHeartbeats 4000000 in
theorem schema_get_ok (n : Nat) (v_0 : TValue) (name_1 : Bytes) (r : TValue) (h0 : schema_get n v_0 name_1 = some r) : PCalls Tryz.prog 100 [.agg (TValue.cs v_0), eS name_1] (· = .p (.agg (TValue.cs r))) := by
 unfold schema_get at h0
 refine pbodyA good Tryz.func100 rfl rfl rfl fun w0 => mP (fun v : TValue => .p (.agg (TValue.cs v))) ?_
 refine nx 9 rfl (bd h0 fun r1 e2 h0 => ?_)
 refine oK (value_Get_ok _ v_0 name_1 _ e2) rfl ⟨sr, sr, trivial⟩ Tryz.call59 rfl (nx 13 rfl ?_)
 exact mQ (oi h0) rfl (sr)

def schema_Changed_l1 (n : Nat) (before_1 : TValue) (after_2 : TValue) (r1 : (List Bytes)) : Nat → (List Bytes) → Int → Option (List Bytes)
 | 0, _, _ => none
 | m + 1, out17, t18 =>
 if t18 < (r1.length : Int) then
  (
    ck ((0 : Int) ≤ t18 ∧ t18 < (r1.length : Int)) <|
    (schema_get n before_1 (lat r1 t18)).bind fun r21 =>
    (schema_get n after_2 (lat r1 t18)).bind fun r23 =>
    (schema_differ n r21 r23).bind fun r25 =>
    if r25 = true then
     ck ((out17.length + [lat r1 t18].length) * 16 ≤ 140737488355328) <|
     some (out17 ++ [lat r1 t18])
    else
     some out17
   : Option (List Bytes)).bind fun out29 =>
  ck (inR (t18 + 1)) <|
  schema_Changed_l1 n before_1 after_2 r1 m out29 (t18 + 1)
 else
  some out17

def schema_Changed (n : Nat) (s_0 : TSchema) (before_1 : TValue) (after_2 : TValue) : Option (List Bytes) :=
 (schema_names n s_0).bind fun r1 =>
 (schema_Changed_l1 n before_1 after_2 r1 n [] 0).bind fun out33 =>
 some out33

set_option maxHeartbeats 4000000 in
theorem schema_Changed_ok (n : Nat) (s_0 : TSchema) (before_1 : TValue) (after_2 : TValue) (r : (List Bytes)) (h0 : schema_Changed n s_0 before_1 after_2 = some r) : PCalls Tryz.prog 61 [.agg (TSchema.cs s_0), .agg (TValue.cs before_1), .agg (TValue.cs after_2)] (· = .p (eL eS r)) := by
 unfold schema_Changed at h0
 refine pbodyA good Tryz.func61 rfl rfl rfl fun w0 => mP (fun v : (List Bytes) => .p (eL eS v)) ?_
 refine nx 15 rfl (bd h0 fun r1 e2 h0 => ?_)
 refine oK (schema_names_ok _ s_0 _ e2) rfl ⟨sr, trivial⟩ Tryz.call98 rfl (oLl (f := eS) rfl rfl ?_)
 refine nx 3 rfl (bd h0 fun o36 h1 h0 => ?_)
 refine kE 0 o36 (fun v37 => ⟨[(7, .vec 27 1 0 (v37.map eS))], []⟩) ?_ ?_
 ·exact nx 7 rfl (mQ (oi h0) rfl (AV.sub_vec _ _ _ _))
 refine lG (fun (q38 : (List Bytes) × Int) => ⟨[(4, .ptr 4 0), (5, .ptr 5 0), (7, .vec 27 1 0 (q38.1.map eS)), (11, .p (eL eS r1)), (12, .p (eI (r1.length : Int))), (13, .p (eI q38.2))], [(4, (TValue.cs before_1).map .p), (5, (TValue.cs after_2).map .p)]⟩) (fun m (q38 : (List Bytes) × Int) => schema_Changed_l1 n before_1 after_2 r1 m q38.1 q38.2) (fun _ => rfl) ([], 0) h1 (ghost_le (le_mk ⟨er rfl, er rfl, ⟨_, rfl, AV.sub_nilvec _ _ _⟩, er rfl, er rfl, er rfl, trivial⟩ ⟨⟨_, rfl, ⟨sr, sr, sr, sr, sr, trivial⟩⟩, ⟨_, rfl, ⟨sr, sr, sr, sr, sr, trivial⟩⟩, trivial⟩)) ?_
 rintro m ⟨out17, t18⟩ h1
 replace h1 : schema_Changed_l1 n before_1 after_2 r1 (m + 1) out17 t18 = some o36 := h1
 rw [schema_Changed_l1] at h1
 refine nx 5 rfl (fD [14] h1 rfl (fun c19 h1 => ?_) fun c19 h1 => ?_)
 ·refine nx 3 rfl (bd h1 fun o39 h2 h1 => ?_)
  refine kN o39 (fun v40 => ⟨[(4, .ptr 4 0), (5, .ptr 5 0), (7, .vec 27 1 0 (v40.map eS)), (11, .p (eL eS r1)), (12, .p (eI (r1.length : Int))), (13, .p (eI t18))], [(4, (TValue.cs before_1).map .p), (5, (TValue.cs after_2).map .p)]⟩) ?_ ?_
  ·refine nx 2 rfl (oA h1 rfl rfl fun hk30 h1 => ?_)
   exact nx 2 rfl (eX (o39, t18 + 1) h1 (gE rfl rfl))
  refine nx 3 rfl (oE h2 (fun _ => rfl) rfl rfl (fun _ => rfl) fun hk20 h2 => ?_)
  refine nx 4 rfl (bd h2 fun r21 e22 h2 => ?_)
  refine bd h2 fun r23 e24 h2 => bd h2 fun r25 e26 h2 => mD [(4, .ptr 4 0), (5, .ptr 5 0), (7, .vec 27 1 0 (out17.map eS)), (9, .p (eS (lat r1 t18))), (11, .p (eL eS r1)), (12, .p (eI (r1.length : Int))), (13, .p (eI t18))] rfl ⟨rfl, rfl, rfl, rfl, rfl, rfl, rfl, trivial⟩ rfl (dR 2 rfl ?_)
  refine dq (.p (.agg (TValue.cs r21))) [17,18] rfl (fun _ e _ q => one_op rfl (ok_callP (schema_get_ok _ before_1 (lat r1 t18) _ e22) rfl rfl rfl (args_cons (e _ _ rfl) (args_cons (e _ _ rfl) args_nil)) ⟨sr, sr, trivial⟩ Tryz.call100 rfl q)) rfl (dR 2 rfl ?_)
  refine dq (.p (.agg (TValue.cs r23))) [20,21] rfl (fun _ e _ q => one_op rfl (ok_callP (schema_get_ok _ after_2 (lat r1 t18) _ e24) rfl rfl rfl (args_cons (e _ _ rfl) (args_cons (e _ _ rfl) args_nil)) ⟨sr, sr, trivial⟩ Tryz.call100 rfl q)) rfl (dq (.p (eB r25)) [19,22] rfl (fun _ e _ q => one_op rfl (ok_callP (schema_differ_ok _ r21 r23 _ e26) rfl rfl rfl (args_cons (e _ _ rfl) (args_cons (e _ _ rfl) args_nil)) ⟨sr, sr, trivial⟩ Tryz.call99 rfl q)) rfl ?_)
  refine dE rfl (nx 1 rfl ?_)
  refine fB [23] h2 rfl (fun c27 h2 => ?_) fun c27 h2 => ?_
  ·refine nx 4 rfl (mO rfl (op_bslice eS [lat r1 t18] rfl rfl rfl rfl rfl rfl rfl rfl rfl rfl rfl rfl rfl rfl ?_))
   refine cc' h2 fun hk28 h2 => mO rfl (op_appV eS out17 [lat r1 t18] rfl rfl rfl rfl rfl rfl rfl rfl rfl rfl rfl rfl rfl (fun _ => rfl) rfl rfl rfl rfl hk28 ?_)
   exact nx 2 rfl (eX _ (oi h2).symm (gE rfl rfl))
  exact nx 2 rfl (eX _ (oi h2).symm (gE rfl rfl))
 exact nx 2 rfl (eXi _ (oi h1).symm (gE rfl rfl))

def explain_shown (n : Nat) (v_0 : TValue) (name_1 : Bytes) : Option Bytes :=
 (value_Get n v_0 name_1).bind fun r1 =>
 (valuetext_Format n r1.1).bind fun r3 =>
 some r3

set_option maxHeartbeats 4000000 in
theorem explain_shown_ok (n : Nat) (v_0 : TValue) (name_1 : Bytes) (r : Bytes) (h0 : explain_shown n v_0 name_1 = some r) : PCalls Tryz.prog 62 [.agg (TValue.cs v_0), eS name_1] (· = .p (eS r)) := by
 unfold explain_shown at h0
 refine pbodyA good Tryz.func62 rfl rfl rfl fun w0 => mP (fun v : Bytes => .p (eS v)) ?_
 refine nx 9 rfl (bd h0 fun r1 e2 h0 => ?_)
 refine oK (value_Get_ok _ v_0 name_1 _ e2) rfl ⟨sr, sr, trivial⟩ Tryz.call59 rfl (nx 10 rfl ?_)
 refine bd h0 fun r3 e4 h0 => oK (valuetext_Format_ok _ r1.1 _ e4) rfl ⟨sr, trivial⟩ Tryz.call60 rfl (nx 3 rfl ?_)
 exact mQ (oi h0) rfl (sr)

def slices_Index_string_string_l1 (s_0 : List Bytes) (v_1 : Bytes) : Nat → Int → Option (Unit ⊕ Int)
 | 0, _ => none
 | m + 1, t6 =>
 if t6 < (s_0.length : Int) then
  ck ((0 : Int) ≤ t6 ∧ t6 < (s_0.length : Int)) <|
  if v_1 = lat s_0 t6 then
   some (.inr t6)
  else
   ck (inR (t6 + 1)) <|
   slices_Index_string_string_l1 s_0 v_1 m (t6 + 1)
 else
  some (.inl ())

def slices_Index_string_string (n : Nat) (s_0 : List Bytes) (v_1 : Bytes) : Option Int :=
 jn (slices_Index_string_string_l1 s_0 v_1 n 0) fun q12 =>
 some (-1)

set_option maxHeartbeats 4000000 in
theorem slices_Index_string_string_ok (n : Nat) (s_0 : List Bytes) (v_1 : Bytes) (r : Int) (h0 : slices_Index_string_string n s_0 v_1 = some r) : PCalls Tryz.prog 101 [eL eS s_0, eS v_1] (· = .p (eI r)) := by
 unfold slices_Index_string_string at h0
 refine pbodyA good Tryz.func101 rfl rfl rfl fun w0 => mP (fun v : Int => .p (eI v)) ?_
 refine nx 8 rfl (oLl (f := eS) rfl rfl ?_)
 refine nx 3 rfl ?_
 obtain ⟨o13, h1, hL0, hR0⟩ := jn_cut h0
 refine kEx 0 (fun v14 : Unit => o13 = .inl v14) (fun v14 => ⟨[], []⟩) (fun v14 hv => ?_) ?_
 ·have h0 := hL0 _ hv
  exact nx 6 rfl (mQ (oi h0) rfl (sr))
 refine lG (fun (q15 : Int) => ⟨[(0, .p (eL eS s_0)), (1, .p (eS v_1)), (7, .p (eI (s_0.length : Int))), (8, .p (eI q15))], []⟩) (fun m (q15 : Int) => slices_Index_string_string_l1 s_0 v_1 m q15) (fun _ => rfl) 0 h1 (gE rfl rfl) ?_
 rintro m t6 h1
 replace h1 : slices_Index_string_string_l1 s_0 v_1 (m + 1) t6 = some o13 := h1
 rw [slices_Index_string_string_l1] at h1
 refine nx 5 rfl (fD [9] h1 rfl (fun c7 h1 => ?_) fun c7 h1 => ?_)
 ·refine nx 14 rfl (oE h1 (fun _ => rfl) rfl rfl (fun _ => rfl) fun hk8 h1 => ?_)
  refine nx 1 rfl (oS rfl rfl ?_)
  refine nx 1 rfl (fD [16] h1 rfl (fun c9 h1 => ?_) fun c9 h1 => ?_)
  ·exact nx 7 rfl (mQ (hR0 _ (oi h1).symm) rfl (sr))
  refine nx 3 rfl (oA h1 rfl rfl fun hk10 h1 => ?_)
  exact nx 2 rfl (eX (t6 + 1) h1 (gE rfl rfl))
 exact nx 2 rfl (eXi _ (oi h1).symm (gE rfl rfl))

def slices_Contains_string_string (n : Nat) (s_0 : List Bytes) (v_1 : Bytes) : Option Bool :=
 (slices_Index_string_string n s_0 v_1).bind fun r1 =>
 some (decide (0 ≤ r1))

set_option maxHeartbeats 4000000 in
theorem slices_Contains_string_string_ok (n : Nat) (s_0 : List Bytes) (v_1 : Bytes) (r : Bool) (h0 : slices_Contains_string_string n s_0 v_1 = some r) : PCalls Tryz.prog 63 [eL eS s_0, eS v_1] (· = .p (eB r)) := by
 unfold slices_Contains_string_string at h0
 refine pbodyA good Tryz.func63 rfl rfl rfl fun w0 => mP (fun v : Bool => .p (eB v)) ?_
 refine nx 8 rfl (bd h0 fun r1 e2 h0 => ?_)
 refine oK (slices_Index_string_string_ok _ s_0 v_1 _ e2) rfl ⟨sr, sr, trivial⟩ Tryz.call101 rfl (nx 4 rfl ?_)
 exact mQ (oi h0) rfl (sr)

def explain_differences_l1 (n : Nat) (replace_3 : List Bytes) (r1 : TValue) (r3 : TValue) (r5 : (List Bytes)) : Nat → (List Bytes) → Int → Option (List Bytes)
 | 0, _, _ => none
 | m + 1, out27, t28 =>
 if t28 < (r5.length : Int) then
  ck ((0 : Int) ≤ t28 ∧ t28 < (r5.length : Int)) <|
  ck (([32, 32, 32, 32] : Bytes).length + (lat r5 t28).length ≤ 9223372036854775807) <|
  ck ((([32, 32, 32, 32] : Bytes) ++ (lat r5 t28)).length + ([32, 61, 32] : Bytes).length ≤ 9223372036854775807) <|
  (explain_shown n r1 (lat r5 t28)).bind fun r33 =>
  ck (((([32, 32, 32, 32] : Bytes) ++ (lat r5 t28)) ++ ([32, 61, 32] : Bytes)).length + r33.length ≤ 9223372036854775807) <|
  ck ((((([32, 32, 32, 32] : Bytes) ++ (lat r5 t28)) ++ ([32, 61, 32] : Bytes)) ++ r33).length + ([32, 45, 62, 32] : Bytes).length ≤ 9223372036854775807) <|
  (explain_shown n r3 (lat r5 t28)).bind fun r37 =>
  ck (((((([32, 32, 32, 32] : Bytes) ++ (lat r5 t28)) ++ ([32, 61, 32] : Bytes)) ++ r33) ++ ([32, 45, 62, 32] : Bytes)).length + r37.length ≤ 9223372036854775807) <|
  (
    (slices_Contains_string_string n replace_3 (lat r5 t28)).bind fun r40 =>
    if r40 = true then
     ck ((((((([32, 32, 32, 32] : Bytes) ++ (lat r5 t28)) ++ ([32, 61, 32] : Bytes)) ++ r33) ++ ([32, 45, 62, 32] : Bytes)) ++ r37).length + ([32, 40, 110, 101, 119, 32, 111, 98, 106, 101, 99, 116, 41] : Bytes).length ≤ 9223372036854775807) <|
     some ((((((([32, 32, 32, 32] : Bytes) ++ (lat r5 t28)) ++ ([32, 61, 32] : Bytes)) ++ r33) ++ ([32, 45, 62, 32] : Bytes)) ++ r37) ++ ([32, 40, 110, 101, 119, 32, 111, 98, 106, 101, 99, 116, 41] : Bytes))
    else
     some (((((([32, 32, 32, 32] : Bytes) ++ (lat r5 t28)) ++ ([32, 61, 32] : Bytes)) ++ r33) ++ ([32, 45, 62, 32] : Bytes)) ++ r37)
   : Option Bytes).bind fun l44 =>
  ck ((out27.length + [l44].length) * 16 ≤ 140737488355328) <|
  ck (inR (t28 + 1)) <|
  explain_differences_l1 n replace_3 r1 r3 r5 m (out27 ++ [l44]) (t28 + 1)
 else
  some out27

def explain_differences (n : Nat) (s_0 : TSchema) (before_1 : TValue) (after_2 : TValue) (replace_3 : List Bytes) : Option (List Bytes) :=
 (schema_Mask n s_0 before_1).bind fun r1 =>
 (schema_Mask n s_0 after_2).bind fun r3 =>
 (schema_Changed n s_0 before_1 after_2).bind fun r5 =>
 (explain_differences_l1 n replace_3 r1 r3 r5 n [] 0).bind fun out49 =>
 some out49

set_option maxHeartbeats 4000000 in
theorem explain_differences_ok (n : Nat) (s_0 : TSchema) (before_1 : TValue) (after_2 : TValue) (replace_3 : List Bytes) (r : (List Bytes)) (h0 : explain_differences n s_0 before_1 after_2 replace_3 = some r) : PCalls Tryz.prog 29 [.agg (TSchema.cs s_0), .agg (TValue.cs before_1), .agg (TValue.cs after_2), eL eS replace_3] (· = .p (eL eS r)) := by
 unfold explain_differences at h0
 refine pbodyA good Tryz.func29 rfl rfl rfl fun w0 => mP (fun v : (List Bytes) => .p (eL eS v)) ?_
 refine nx 8 rfl (bd h0 fun r1 e2 h0 => ?_)
 refine bd h0 fun r3 e4 h0 => mG (gE (t := ⟨[(3, .p (eL eS replace_3)), (4, .ptr 4 0), (5, .ptr 5 0), (6, .ptr 6 0)], [(4, (TSchema.cs s_0).map .p), (5, (TValue.cs before_1).map .p), (6, (TValue.cs after_2).map .p)]⟩) rfl rfl) (mSS ⟨4, [6, 7, 8, 9], (by5 (.some fun i => Nat.beq i 9) (.some fun i => Nat.beq i 10) .none .none .none), (fun _ => [(3, .p (eL eS replace_3)), (4, .ptr 4 0), (5, .ptr 5 0), (6, .ptr 6 0)]), (by5 ([(4, [.p (eL eTAttr s_0.fAttrs), .p (eL eTNested s_0.fNested)]), (5, [.p (eI before_1.fKind), .p (eI before_1.fNum), .p (eS before_1.fStr), .p (eL eTValue before_1.fItems), .p (eL eS before_1.fKeys)]), (6, [.p (eI after_2.fKind), .p (eI after_2.fNum), .p (eS after_2.fStr), .p (eL eTValue after_2.fItems), .p (eL eS after_2.fKeys)])]) ([(9, [.p (eI 0), .p (eI 0), .p (eS ([] : Bytes)), .p (.val (.slice none 0 0)), .p (.val (.slice none 0 0))]), (4, [.p (eL eTAttr s_0.fAttrs), .p (eL eTNested s_0.fNested)]), (5, [.p (eI before_1.fKind), .p (eI before_1.fNum), .p (eS before_1.fStr), .p (eL eTValue before_1.fItems), .p (eL eS before_1.fKeys)]), (6, [.p (eI after_2.fKind), .p (eI after_2.fNum), .p (eS after_2.fStr), .p (eL eTValue after_2.fItems), .p (eL eS after_2.fKeys)])]) ([(10, [.p (eI 0), .p (eI 0), .p (eS ([] : Bytes)), .p (.val (.slice none 0 0)), .p (.val (.slice none 0 0))]), (9, [.p (eI 0), .p (eI 0), .p (eS ([] : Bytes)), .p (.val (.slice none 0 0)), .p (.val (.slice none 0 0))]), (4, [.p (eL eTAttr s_0.fAttrs), .p (eL eTNested s_0.fNested)]), (5, [.p (eI before_1.fKind), .p (eI before_1.fNum), .p (eS before_1.fStr), .p (eL eTValue before_1.fItems), .p (eL eS before_1.fKeys)]), (6, [.p (eI after_2.fKind), .p (eI after_2.fNum), .p (eS after_2.fStr), .p (eL eTValue after_2.fItems), .p (eL eS after_2.fKeys)])]) ([(9, [.p (eI r1.fKind), .p (eI r1.fNum), .p (eS r1.fStr), .p (eL eTValue r1.fItems), .p (eL eS r1.fKeys)]), (10, [.p (eI 0), .p (eI 0), .p (eS ([] : Bytes)), .p (.val (.slice none 0 0)), .p (.val (.slice none 0 0))]), (9, [.p (eI 0), .p (eI 0), .p (eS ([] : Bytes)), .p (.val (.slice none 0 0)), .p (.val (.slice none 0 0))]), (4, [.p (eL eTAttr s_0.fAttrs), .p (eL eTNested s_0.fNested)]), (5, [.p (eI before_1.fKind), .p (eI before_1.fNum), .p (eS before_1.fStr), .p (eL eTValue before_1.fItems), .p (eL eS before_1.fKeys)]), (6, [.p (eI after_2.fKind), .p (eI after_2.fNum), .p (eS after_2.fStr), .p (eL eTValue after_2.fItems), .p (eL eS after_2.fKeys)])]) ([(10, [.p (eI r3.fKind), .p (eI r3.fNum), .p (eS r3.fStr), .p (eL eTValue r3.fItems), .p (eL eS r3.fKeys)]), (9, [.p (eI r1.fKind), .p (eI r1.fNum), .p (eS r1.fStr), .p (eL eTValue r1.fItems), .p (eL eS r1.fKeys)]), (10, [.p (eI 0), .p (eI 0), .p (eS ([] : Bytes)), .p (.val (.slice none 0 0)), .p (.val (.slice none 0 0))]), (9, [.p (eI 0), .p (eI 0), .p (eS ([] : Bytes)), .p (.val (.slice none 0 0)), .p (.val (.slice none 0 0))]), (4, [.p (eL eTAttr s_0.fAttrs), .p (eL eTNested s_0.fNested)]), (5, [.p (eI before_1.fKind), .p (eI before_1.fNum), .p (eS before_1.fStr), .p (eL eTValue before_1.fItems), .p (eL eS before_1.fKeys)]), (6, [.p (eI after_2.fKind), .p (eI after_2.fNum), .p (eS after_2.fStr), .p (eL eTValue after_2.fItems), .p (eL eS after_2.fKeys)])]))⟩ ⟨4, [7, 6, 8, 9], (by5 (.some fun i => Nat.beq i 10) (.some fun i => Nat.beq i 9) .none .none .none), (fun _ => [(3, .p (eL eS replace_3)), (4, .ptr 4 0), (5, .ptr 5 0), (6, .ptr 6 0)]), (by5 ([(4, [.p (eL eTAttr s_0.fAttrs), .p (eL eTNested s_0.fNested)]), (5, [.p (eI before_1.fKind), .p (eI before_1.fNum), .p (eS before_1.fStr), .p (eL eTValue before_1.fItems), .p (eL eS before_1.fKeys)]), (6, [.p (eI after_2.fKind), .p (eI after_2.fNum), .p (eS after_2.fStr), .p (eL eTValue after_2.fItems), .p (eL eS after_2.fKeys)])]) ([(10, [.p (eI 0), .p (eI 0), .p (eS ([] : Bytes)), .p (.val (.slice none 0 0)), .p (.val (.slice none 0 0))]), (4, [.p (eL eTAttr s_0.fAttrs), .p (eL eTNested s_0.fNested)]), (5, [.p (eI before_1.fKind), .p (eI before_1.fNum), .p (eS before_1.fStr), .p (eL eTValue before_1.fItems), .p (eL eS before_1.fKeys)]), (6, [.p (eI after_2.fKind), .p (eI after_2.fNum), .p (eS after_2.fStr), .p (eL eTValue after_2.fItems), .p (eL eS after_2.fKeys)])]) ([(9, [.p (eI 0), .p (eI 0), .p (eS ([] : Bytes)), .p (.val (.slice none 0 0)), .p (.val (.slice none 0 0))]), (10, [.p (eI 0), .p (eI 0), .p (eS ([] : Bytes)), .p (.val (.slice none 0 0)), .p (.val (.slice none 0 0))]), (4, [.p (eL eTAttr s_0.fAttrs), .p (eL eTNested s_0.fNested)]), (5, [.p (eI before_1.fKind), .p (eI before_1.fNum), .p (eS before_1.fStr), .p (eL eTValue before_1.fItems), .p (eL eS before_1.fKeys)]), (6, [.p (eI after_2.fKind), .p (eI after_2.fNum), .p (eS after_2.fStr), .p (eL eTValue after_2.fItems), .p (eL eS after_2.fKeys)])]) ([(9, [.p (eI r1.fKind), .p (eI r1.fNum), .p (eS r1.fStr), .p (eL eTValue r1.fItems), .p (eL eS r1.fKeys)]), (9, [.p (eI 0), .p (eI 0), .p (eS ([] : Bytes)), .p (.val (.slice none 0 0)), .p (.val (.slice none 0 0))]), (10, [.p (eI 0), .p (eI 0), .p (eS ([] : Bytes)), .p (.val (.slice none 0 0)), .p (.val (.slice none 0 0))]), (4, [.p (eL eTAttr s_0.fAttrs), .p (eL eTNested s_0.fNested)]), (5, [.p (eI before_1.fKind), .p (eI before_1.fNum), .p (eS before_1.fStr), .p (eL eTValue before_1.fItems), .p (eL eS before_1.fKeys)]), (6, [.p (eI after_2.fKind), .p (eI after_2.fNum), .p (eS after_2.fStr), .p (eL eTValue after_2.fItems), .p (eL eS after_2.fKeys)])]) ([(10, [.p (eI r3.fKind), .p (eI r3.fNum), .p (eS r3.fStr), .p (eL eTValue r3.fItems), .p (eL eS r3.fKeys)]), (9, [.p (eI r1.fKind), .p (eI r1.fNum), .p (eS r1.fStr), .p (eL eTValue r1.fItems), .p (eL eS r1.fKeys)]), (9, [.p (eI 0), .p (eI 0), .p (eS ([] : Bytes)), .p (.val (.slice none 0 0)), .p (.val (.slice none 0 0))]), (10, [.p (eI 0), .p (eI 0), .p (eS ([] : Bytes)), .p (.val (.slice none 0 0)), .p (.val (.slice none 0 0))]), (4, [.p (eL eTAttr s_0.fAttrs), .p (eL eTNested s_0.fNested)]), (5, [.p (eI before_1.fKind), .p (eI before_1.fNum), .p (eS before_1.fStr), .p (eL eTValue before_1.fItems), .p (eL eS before_1.fKeys)]), (6, [.p (eI after_2.fKind), .p (eI after_2.fNum), .p (eS after_2.fStr), .p (eL eTValue after_2.fItems), .p (eL eS after_2.fKeys)])]))⟩ rfl rfl rfl rfl rfl rfl rfl ⟨rfl, rfl, rfl, rfl, trivial⟩ rfl (lt4 ⟨rfl, rfl, rfl, rfl, trivial⟩ ⟨rfl, rfl, rfl, rfl, trivial⟩ ⟨rfl, rfl, rfl, rfl, trivial⟩ ⟨rfl, rfl, rfl, rfl, trivial⟩) (lt4 ⟨rfl, rfl, rfl, rfl, trivial⟩ ⟨rfl, rfl, rfl, rfl, trivial⟩ ⟨rfl, rfl, rfl, rfl, trivial⟩ ⟨rfl, rfl, rfl, rfl, trivial⟩) rfl rfl rfl rfl rfl ?_)
 refine ds_pure (fun _ => .p (.agg (TSchema.cs s_0))) rfl rfl rfl (all5 rfl rfl rfl rfl (fun _ => rfl)) (lt4 rfl rfl rfl rfl) (stg_no rfl (stg_no rfl (stg_yes [(4, _)] ⟨.inl rfl, trivial⟩ (fun sl hsl K hK => one_op rfl (ok_loadPA rfl rfl rfl rfl rfl (hsl _ _ rfl) rfl rfl rfl hK)) (stg_yes [(4, _)] ⟨.inl rfl, trivial⟩ (fun sl hsl K hK => one_op rfl (ok_loadPA rfl rfl rfl rfl rfl (hsl _ _ rfl) rfl rfl rfl hK)) (stg_yes [(4, _)] ⟨.inl rfl, trivial⟩ (fun sl hsl K hK => one_op rfl (ok_loadPA rfl rfl rfl rfl rfl (hsl _ _ rfl) rfl rfl rfl hK)) stg_nil))))) (ds_pure (fun _ => .p (.agg (TValue.cs before_1))) rfl rfl rfl (all5 rfl rfl rfl rfl (fun _ => rfl)) (lt4 rfl rfl rfl rfl) (stg_no rfl (stg_no rfl (stg_yes [(5, _)] ⟨.inl rfl, trivial⟩ (fun sl hsl K hK => one_op rfl (ok_loadPA rfl rfl rfl rfl rfl (hsl _ _ rfl) rfl rfl rfl hK)) (stg_yes [(5, _)] ⟨.inl rfl, trivial⟩ (fun sl hsl K hK => one_op rfl (ok_loadPA rfl rfl rfl rfl rfl (hsl _ _ rfl) rfl rfl rfl hK)) (stg_yes [(5, _)] ⟨.inl rfl, trivial⟩ (fun sl hsl K hK => one_op rfl (ok_loadPA rfl rfl rfl rfl rfl (hsl _ _ rfl) rfl rfl rfl hK)) stg_nil))))) ?_)
 refine ds_pure (fun _ => .p (.agg (TValue.cs r1))) rfl rfl rfl (all5 rfl rfl rfl rfl (fun _ => rfl)) (lt4 rfl rfl rfl rfl) (stg_no rfl (stg_no rfl (stg_yes [(15, _), (16, _)] ⟨.inr ⟨0, _, rfl, rfl, rfl⟩, .inr ⟨1, _, rfl, rfl, rfl⟩, trivial⟩ (fun sl hsl K hK => one_op rfl (ok_callP (schema_Mask_ok _ s_0 before_1 _ e2) rfl rfl rfl (args_cons (hsl _ _ rfl) (args_cons (hsl _ _ rfl) args_nil)) ⟨sr, sr, trivial⟩ Tryz.call57 rfl hK)) (stg_yes [(15, _), (16, _)] ⟨.inr ⟨0, _, rfl, rfl, rfl⟩, .inr ⟨1, _, rfl, rfl, rfl⟩, trivial⟩ (fun sl hsl K hK => one_op rfl (ok_callP (schema_Mask_ok _ s_0 before_1 _ e2) rfl rfl rfl (args_cons (hsl _ _ rfl) (args_cons (hsl _ _ rfl) args_nil)) ⟨sr, sr, trivial⟩ Tryz.call57 rfl hK)) (stg_yes [(15, _), (16, _)] ⟨.inr ⟨0, _, rfl, rfl, rfl⟩, .inr ⟨1, _, rfl, rfl, rfl⟩, trivial⟩ (fun sl hsl K hK => one_op rfl (ok_callP (schema_Mask_ok _ s_0 before_1 _ e2) rfl rfl rfl (args_cons (hsl _ _ rfl) (args_cons (hsl _ _ rfl) args_nil)) ⟨sr, sr, trivial⟩ Tryz.call57 rfl hK)) stg_nil))))) (ds_pure (fun _ => .p (.agg (TSchema.cs s_0))) rfl rfl rfl (all5 rfl rfl rfl rfl (fun _ => rfl)) (lt4 rfl rfl rfl rfl) (stg_no rfl (stg_yes [(4, _)] ⟨.inl rfl, trivial⟩ (fun sl hsl K hK => one_op rfl (ok_loadPA rfl rfl rfl rfl rfl (hsl _ _ rfl) rfl rfl rfl hK)) (stg_yes [(4, _)] ⟨.inl rfl, trivial⟩ (fun sl hsl K hK => one_op rfl (ok_loadPA rfl rfl rfl rfl rfl (hsl _ _ rfl) rfl rfl rfl hK)) (stg_yes [(4, _)] ⟨.inl rfl, trivial⟩ (fun sl hsl K hK => one_op rfl (ok_loadPA rfl rfl rfl rfl rfl (hsl _ _ rfl) rfl rfl rfl hK)) (stg_yes [(4, _)] ⟨.inl rfl, trivial⟩ (fun sl hsl K hK => one_op rfl (ok_loadPA rfl rfl rfl rfl rfl (hsl _ _ rfl) rfl rfl rfl hK)) stg_nil))))) ?_)
 refine ds_pure (fun _ => .p (.agg (TValue.cs after_2))) rfl rfl rfl (all5 rfl rfl rfl rfl (fun _ => rfl)) (lt4 rfl rfl rfl rfl) (stg_no rfl (stg_yes [(6, _)] ⟨.inl rfl, trivial⟩ (fun sl hsl K hK => one_op rfl (ok_loadPA rfl rfl rfl rfl rfl (hsl _ _ rfl) rfl rfl rfl hK)) (stg_yes [(6, _)] ⟨.inl rfl, trivial⟩ (fun sl hsl K hK => one_op rfl (ok_loadPA rfl rfl rfl rfl rfl (hsl _ _ rfl) rfl rfl rfl hK)) (stg_yes [(6, _)] ⟨.inl rfl, trivial⟩ (fun sl hsl K hK => one_op rfl (ok_loadPA rfl rfl rfl rfl rfl (hsl _ _ rfl) rfl rfl rfl hK)) (stg_yes [(6, _)] ⟨.inl rfl, trivial⟩ (fun sl hsl K hK => one_op rfl (ok_loadPA rfl rfl rfl rfl rfl (hsl _ _ rfl) rfl rfl rfl hK)) stg_nil))))) (ds_pure (fun _ => .p (.agg (TValue.cs r3))) rfl rfl rfl (all5 rfl rfl rfl rfl (fun _ => rfl)) (lt4 rfl rfl rfl rfl) (stg_no rfl (stg_no rfl (stg_yes [(18, _), (19, _)] ⟨.inr ⟨3, _, rfl, rfl, rfl⟩, .inr ⟨4, _, rfl, rfl, rfl⟩, trivial⟩ (fun sl hsl K hK => one_op rfl (ok_callP (schema_Mask_ok _ s_0 after_2 _ e4) rfl rfl rfl (args_cons (hsl _ _ rfl) (args_cons (hsl _ _ rfl) args_nil)) ⟨sr, sr, trivial⟩ Tryz.call57 rfl hK)) (stg_yes [(18, _), (19, _)] ⟨.inr ⟨3, _, rfl, rfl, rfl⟩, .inr ⟨4, _, rfl, rfl, rfl⟩, trivial⟩ (fun sl hsl K hK => one_op rfl (ok_callP (schema_Mask_ok _ s_0 after_2 _ e4) rfl rfl rfl (args_cons (hsl _ _ rfl) (args_cons (hsl _ _ rfl) args_nil)) ⟨sr, sr, trivial⟩ Tryz.call57 rfl hK)) (stg_yes [(18, _), (19, _)] ⟨.inr ⟨3, _, rfl, rfl, rfl⟩, .inr ⟨4, _, rfl, rfl, rfl⟩, trivial⟩ (fun sl hsl K hK => one_op rfl (ok_callP (schema_Mask_ok _ s_0 after_2 _ e4) rfl rfl rfl (args_cons (hsl _ _ rfl) (args_cons (hsl _ _ rfl) args_nil)) ⟨sr, sr, trivial⟩ Tryz.call57 rfl hK)) stg_nil))))) ?_)
 refine ds_imp (fun _ => .ptr 9 0) [] rfl trivial rfl rfl (all4 rfl rfl rfl (fun _ => rfl)) (lt4 (fun h => absurd h (by decide)) (fun _ => rfl) (fun _ => rfl) (fun _ => rfl)) (fun sl hsl K hK => one_op rfl (ok_alloc rfl rfl rfl rfl rfl hK)) (ds_imp (fun _ => .ptr 10 0) [] rfl trivial rfl rfl (all3 rfl rfl (fun _ => rfl)) (lt4 (fun h => absurd h (by decide)) (fun h => absurd h (by decide)) (fun _ => rfl) (fun _ => rfl)) (fun sl hsl K hK => one_op rfl (ok_alloc rfl rfl rfl rfl rfl hK)) ?_)
 refine ds_store [(9, _), (17, _)] rfl ⟨.inr ⟨6, _, rfl, rfl, rfl⟩, .inr ⟨2, _, rfl, rfl, rfl⟩, trivial⟩ rfl (fun sl hsl K hK => one_op rfl (ok_store rfl rfl rfl (hsl _ _ rfl) (hsl _ _ rfl) rfl rfl rfl (Nat.le_of_ble_eq_true rfl) hK)) (ds_store [(10, _), (20, _)] rfl ⟨.inr ⟨7, _, rfl, rfl, rfl⟩, .inr ⟨5, _, rfl, rfl, rfl⟩, trivial⟩ rfl (fun sl hsl K hK => one_op rfl (ok_store rfl rfl rfl (hsl _ _ rfl) (hsl _ _ rfl) rfl rfl rfl (Nat.le_of_ble_eq_true rfl) hK)) ?_)
 refine ds_one (ds_pure (fun _ => .p (.agg (TSchema.cs s_0))) rfl rfl rfl (all5 rfl rfl rfl rfl (fun _ => rfl)) (lt4 rfl rfl rfl rfl) (stg_no rfl (stg_no rfl (stg_yes [(4, _)] ⟨.inl rfl, trivial⟩ (fun sl hsl K hK => one_op rfl (ok_loadPA rfl rfl rfl rfl rfl (hsl _ _ rfl) rfl rfl rfl hK)) (stg_yes [(4, _)] ⟨.inl rfl, trivial⟩ (fun sl hsl K hK => one_op rfl (ok_loadPA rfl rfl rfl rfl rfl (hsl _ _ rfl) rfl rfl rfl hK)) (stg_yes [(4, _)] ⟨.inl rfl, trivial⟩ (fun sl hsl K hK => one_op rfl (ok_loadPA rfl rfl rfl rfl rfl (hsl _ _ rfl) rfl rfl rfl hK)) stg_nil))))) (ds_pure (fun _ => .p (.agg (TValue.cs before_1))) rfl rfl rfl (all5 rfl rfl rfl rfl (fun _ => rfl)) (lt4 rfl rfl rfl rfl) (stg_no rfl (stg_no rfl (stg_yes [(5, _)] ⟨.inl rfl, trivial⟩ (fun sl hsl K hK => one_op rfl (ok_loadPA rfl rfl rfl rfl rfl (hsl _ _ rfl) rfl rfl rfl hK)) (stg_yes [(5, _)] ⟨.inl rfl, trivial⟩ (fun sl hsl K hK => one_op rfl (ok_loadPA rfl rfl rfl rfl rfl (hsl _ _ rfl) rfl rfl rfl hK)) (stg_yes [(5, _)] ⟨.inl rfl, trivial⟩ (fun sl hsl K hK => one_op rfl (ok_loadPA rfl rfl rfl rfl rfl (hsl _ _ rfl) rfl rfl rfl hK)) stg_nil))))) (ds_pure (fun _ => .p (.agg (TValue.cs r1))) rfl rfl rfl (all5 rfl rfl rfl rfl (fun _ => rfl)) (lt4 rfl rfl rfl rfl) (stg_no rfl (stg_no rfl (stg_yes [(15, _), (16, _)] ⟨.inr ⟨0, _, rfl, rfl, rfl⟩, .inr ⟨1, _, rfl, rfl, rfl⟩, trivial⟩ (fun sl hsl K hK => one_op rfl (ok_callP (schema_Mask_ok _ s_0 before_1 _ e2) rfl rfl rfl (args_cons (hsl _ _ rfl) (args_cons (hsl _ _ rfl) args_nil)) ⟨sr, sr, trivial⟩ Tryz.call57 rfl hK)) (stg_yes [(15, _), (16, _)] ⟨.inr ⟨0, _, rfl, rfl, rfl⟩, .inr ⟨1, _, rfl, rfl, rfl⟩, trivial⟩ (fun sl hsl K hK => one_op rfl (ok_callP (schema_Mask_ok _ s_0 before_1 _ e2) rfl rfl rfl (args_cons (hsl _ _ rfl) (args_cons (hsl _ _ rfl) args_nil)) ⟨sr, sr, trivial⟩ Tryz.call57 rfl hK)) (stg_yes [(15, _), (16, _)] ⟨.inr ⟨0, _, rfl, rfl, rfl⟩, .inr ⟨1, _, rfl, rfl, rfl⟩, trivial⟩ (fun sl hsl K hK => one_op rfl (ok_callP (schema_Mask_ok _ s_0 before_1 _ e2) rfl rfl rfl (args_cons (hsl _ _ rfl) (args_cons (hsl _ _ rfl) args_nil)) ⟨sr, sr, trivial⟩ Tryz.call57 rfl hK)) stg_nil))))) (ds_pure (fun _ => .p (.agg (TSchema.cs s_0))) rfl rfl rfl (all5 rfl rfl rfl rfl (fun _ => rfl)) (lt4 rfl rfl rfl rfl) (stg_no rfl (stg_yes [(4, _)] ⟨.inl rfl, trivial⟩ (fun sl hsl K hK => one_op rfl (ok_loadPA rfl rfl rfl rfl rfl (hsl _ _ rfl) rfl rfl rfl hK)) (stg_yes [(4, _)] ⟨.inl rfl, trivial⟩ (fun sl hsl K hK => one_op rfl (ok_loadPA rfl rfl rfl rfl rfl (hsl _ _ rfl) rfl rfl rfl hK)) (stg_yes [(4, _)] ⟨.inl rfl, trivial⟩ (fun sl hsl K hK => one_op rfl (ok_loadPA rfl rfl rfl rfl rfl (hsl _ _ rfl) rfl rfl rfl hK)) (stg_yes [(4, _)] ⟨.inl rfl, trivial⟩ (fun sl hsl K hK => one_op rfl (ok_loadPA rfl rfl rfl rfl rfl (hsl _ _ rfl) rfl rfl rfl hK)) stg_nil))))) (ds_pure (fun _ => .p (.agg (TValue.cs after_2))) rfl rfl rfl (all5 rfl rfl rfl rfl (fun _ => rfl)) (lt4 rfl rfl rfl rfl) (stg_no rfl (stg_yes [(6, _)] ⟨.inl rfl, trivial⟩ (fun sl hsl K hK => one_op rfl (ok_loadPA rfl rfl rfl rfl rfl (hsl _ _ rfl) rfl rfl rfl hK)) (stg_yes [(6, _)] ⟨.inl rfl, trivial⟩ (fun sl hsl K hK => one_op rfl (ok_loadPA rfl rfl rfl rfl rfl (hsl _ _ rfl) rfl rfl rfl hK)) (stg_yes [(6, _)] ⟨.inl rfl, trivial⟩ (fun sl hsl K hK => one_op rfl (ok_loadPA rfl rfl rfl rfl rfl (hsl _ _ rfl) rfl rfl rfl hK)) (stg_yes [(6, _)] ⟨.inl rfl, trivial⟩ (fun sl hsl K hK => one_op rfl (ok_loadPA rfl rfl rfl rfl rfl (hsl _ _ rfl) rfl rfl rfl hK)) stg_nil))))) (ds_pure (fun _ => .p (.agg (TValue.cs r3))) rfl rfl rfl (all5 rfl rfl rfl rfl (fun _ => rfl)) (lt4 rfl rfl rfl rfl) (stg_no rfl (stg_no rfl (stg_yes [(18, _), (19, _)] ⟨.inr ⟨3, _, rfl, rfl, rfl⟩, .inr ⟨4, _, rfl, rfl, rfl⟩, trivial⟩ (fun sl hsl K hK => one_op rfl (ok_callP (schema_Mask_ok _ s_0 after_2 _ e4) rfl rfl rfl (args_cons (hsl _ _ rfl) (args_cons (hsl _ _ rfl) args_nil)) ⟨sr, sr, trivial⟩ Tryz.call57 rfl hK)) (stg_yes [(18, _), (19, _)] ⟨.inr ⟨3, _, rfl, rfl, rfl⟩, .inr ⟨4, _, rfl, rfl, rfl⟩, trivial⟩ (fun sl hsl K hK => one_op rfl (ok_callP (schema_Mask_ok _ s_0 after_2 _ e4) rfl rfl rfl (args_cons (hsl _ _ rfl) (args_cons (hsl _ _ rfl) args_nil)) ⟨sr, sr, trivial⟩ Tryz.call57 rfl hK)) (stg_yes [(18, _), (19, _)] ⟨.inr ⟨3, _, rfl, rfl, rfl⟩, .inr ⟨4, _, rfl, rfl, rfl⟩, trivial⟩ (fun sl hsl K hK => one_op rfl (ok_callP (schema_Mask_ok _ s_0 after_2 _ e4) rfl rfl rfl (args_cons (hsl _ _ rfl) (args_cons (hsl _ _ rfl) args_nil)) ⟨sr, sr, trivial⟩ Tryz.call57 rfl hK)) stg_nil))))) (ds_imp (fun _ => .ptr 9 0) [] rfl trivial rfl rfl (all3 rfl rfl (fun _ => rfl)) (lt4 (fun h => absurd h (by decide)) (fun h => absurd h (by decide)) (fun _ => rfl) (fun _ => rfl)) (fun sl hsl K hK => one_op rfl (ok_alloc rfl rfl rfl rfl rfl hK)) (ds_imp (fun _ => .ptr 10 0) [] rfl trivial rfl rfl (all4 rfl rfl rfl (fun _ => rfl)) (lt4 (fun h => absurd h (by decide)) (fun _ => rfl) (fun _ => rfl) (fun _ => rfl)) (fun sl hsl K hK => one_op rfl (ok_alloc rfl rfl rfl rfl rfl hK)) (ds_store [(9, _), (17, _)] rfl ⟨.inr ⟨6, _, rfl, rfl, rfl⟩, .inr ⟨2, _, rfl, rfl, rfl⟩, trivial⟩ rfl (fun sl hsl K hK => one_op rfl (ok_store rfl rfl rfl (hsl _ _ rfl) (hsl _ _ rfl) rfl rfl rfl (Nat.le_of_ble_eq_true rfl) hK)) (ds_store [(10, _), (20, _)] rfl ⟨.inr ⟨7, _, rfl, rfl, rfl⟩, .inr ⟨5, _, rfl, rfl, rfl⟩, trivial⟩ rfl (fun sl hsl K hK => one_op rfl (ok_store rfl rfl rfl (hsl _ _ rfl) (hsl _ _ rfl) rfl rfl rfl (Nat.le_of_ble_eq_true rfl) hK)) (ds_two rfl ⟨rfl, rfl, rfl, rfl, rfl, rfl, rfl, trivial⟩ ⟨⟨rfl, rfl, .inl rfl⟩, ⟨⟨rfl, rfl, .inl rfl⟩, ⟨⟨rfl, rfl, .inr rfl⟩, ⟨⟨rfl, rfl, .inr rfl⟩, ⟨⟨rfl, rfl, .inr rfl⟩, ⟨⟨rfl, rfl, .inr rfl⟩, ⟨⟨rfl, rfl, .inr rfl⟩, ⟨⟨rfl, rfl, .inr rfl⟩, trivial⟩⟩⟩⟩⟩⟩⟩⟩))))))))))) (nx 11 rfl ?_)
 refine bd h0 fun r5 e6 h0 => oK (schema_Changed_ok _ s_0 before_1 after_2 _ e6) rfl ⟨sr, sr, sr, trivial⟩ Tryz.call61 rfl (oLl (f := eS) rfl rfl ?_)
 refine nx 3 rfl (bd h0 fun o52 h1 h0 => ?_)
 refine kE 0 o52 (fun v53 => ⟨[(11, .vec 50 1 0 (v53.map eS))], []⟩) ?_ ?_
 ·exact nx 7 rfl (mQ (oi h0) rfl (AV.sub_vec _ _ _ _))
 refine lG (fun (q54 : (List Bytes) × Int) => ⟨[(3, .p (eL eS replace_3)), (9, .ptr 9 0), (10, .ptr 10 0), (11, .vec 50 1 0 (q54.1.map eS)), (24, .p (eL eS r5)), (25, .p (eI (r5.length : Int))), (26, .p (eI q54.2))], [(9, (TValue.cs r1).map .p), (10, (TValue.cs r3).map .p)]⟩) (fun m (q54 : (List Bytes) × Int) => explain_differences_l1 n replace_3 r1 r3 r5 m q54.1 q54.2) (fun _ => rfl) ([], 0) h1 (ghost_le (le_mk ⟨er rfl, er rfl, er rfl, ⟨_, rfl, AV.sub_nilvec _ _ _⟩, er rfl, er rfl, er rfl, trivial⟩ ⟨⟨_, rfl, ⟨sr, sr, sr, sr, sr, trivial⟩⟩, ⟨_, rfl, ⟨sr, sr, sr, sr, sr, trivial⟩⟩, trivial⟩)) ?_
 rintro m ⟨out27, t28⟩ h1
 replace h1 : explain_differences_l1 n replace_3 r1 r3 r5 (m + 1) out27 t28 = some o52 := h1
 rw [explain_differences_l1] at h1
 refine nx 5 rfl (fD [27] h1 rfl (fun c29 h1 => ?_) fun c29 h1 => ?_)
 ·refine nx 6 rfl (oE h1 (fun _ => rfl) rfl rfl (fun _ => rfl) fun hk30 h1 => ?_)
  refine nx 4 rfl (cc' h1 fun hk31 h1 => ?_)
  refine cc' h1 fun hk32 h1 => bd h1 fun r33 e34 h1 => cc' h1 fun hk35 h1 => cc' h1 fun hk36 h1 => bd h1 fun r37 e38 h1 => cc' h1 fun hk39 h1 => mD [(3, .p (eL eS replace_3)), (9, .ptr 9 0), (10, .ptr 10 0), (11, .vec 50 1 0 (out27.map eS)), (13, .p (eS (lat r5 t28))), (24, .p (eL eS r5)), (25, .p (eI (r5.length : Int))), (26, .p (eI t28))] rfl ⟨rfl, rfl, rfl, rfl, rfl, rfl, rfl, rfl, trivial⟩ rfl (dR 1 rfl ?_)
  refine dq (.p (eS (([32, 32, 32, 32] : Bytes) ++ (lat r5 t28)))) [30] rfl (fun _ e _ q => one_op rfl (ok_concat rfl rfl rfl rfl (e _ _ rfl) hk31 q)) rfl (dq (.p (eS ((([32, 32, 32, 32] : Bytes) ++ (lat r5 t28)) ++ ([32, 61, 32] : Bytes)))) [31] rfl (fun _ e _ q => one_op rfl (ok_concat rfl rfl rfl (e _ _ rfl) rfl hk32 q)) rfl ?_)
  refine dR 2 rfl (dq (.p (eS r33)) [33,34] rfl (fun _ e _ q => one_op rfl (ok_callP (explain_shown_ok _ r1 (lat r5 t28) _ e34) rfl rfl rfl (args_cons (e _ _ rfl) (args_cons (e _ _ rfl) args_nil)) ⟨sr, sr, trivial⟩ Tryz.call62 rfl q)) rfl ?_)
  refine dq (.p (eS (((([32, 32, 32, 32] : Bytes) ++ (lat r5 t28)) ++ ([32, 61, 32] : Bytes)) ++ r33))) [32,35] rfl (fun _ e _ q => one_op rfl (ok_concat rfl rfl rfl (e _ _ rfl) (e _ _ rfl) hk35 q)) rfl (dq (.p (eS ((((([32, 32, 32, 32] : Bytes) ++ (lat r5 t28)) ++ ([32, 61, 32] : Bytes)) ++ r33) ++ ([32, 45, 62, 32] : Bytes)))) [36] rfl (fun _ e _ q => one_op rfl (ok_concat rfl rfl rfl (e _ _ rfl) rfl hk36 q)) rfl ?_)
  refine dR 2 rfl (dq (.p (eS r37)) [38,39] rfl (fun _ e _ q => one_op rfl (ok_callP (explain_shown_ok _ r3 (lat r5 t28) _ e38) rfl rfl rfl (args_cons (e _ _ rfl) (args_cons (e _ _ rfl) args_nil)) ⟨sr, sr, trivial⟩ Tryz.call62 rfl q)) rfl ?_)
  refine dq (.p (eS (((((([32, 32, 32, 32] : Bytes) ++ (lat r5 t28)) ++ ([32, 61, 32] : Bytes)) ++ r33) ++ ([32, 45, 62, 32] : Bytes)) ++ r37))) [37,40] rfl (fun _ e _ q => one_op rfl (ok_concat rfl rfl rfl (e _ _ rfl) (e _ _ rfl) hk39 q)) rfl (dR 1 rfl ?_)
  refine dE rfl (nx 2 rfl ?_)
  refine bd h1 fun o55 h2 h1 => kN o55 (fun v56 => ⟨[(3, .p (eL eS replace_3)), (9, .ptr 9 0), (10, .ptr 10 0), (11, .vec 50 1 0 (out27.map eS)), (14, .p (eS v56)), (24, .p (eL eS r5)), (25, .p (eI (r5.length : Int))), (26, .p (eI t28))], [(9, (TValue.cs r1).map .p), (10, (TValue.cs r3).map .p)]⟩) ?_ ?_
  ·refine nx 4 rfl (mO rfl (op_bslice eS [o55] rfl rfl rfl rfl rfl rfl rfl rfl rfl rfl rfl rfl rfl rfl ?_))
   refine cc' h1 fun hk45 h1 => mO rfl (op_appV eS out27 [o55] rfl rfl rfl rfl rfl rfl rfl rfl rfl rfl rfl rfl rfl (fun _ => rfl) rfl rfl rfl rfl hk45 ?_)
   refine nx 3 rfl (oA h1 rfl rfl fun hk46 h1 => ?_)
   exact nx 2 rfl (eX (out27 ++ [o55], t28 + 1) h1 (gE rfl rfl))
  refine nx 4 rfl (bd h2 fun r40 e41 h2 => ?_)
  refine oK (slices_Contains_string_string_ok _ replace_3 (lat r5 t28) _ e41) rfl ⟨sr, sr, trivial⟩ Tryz.call63 rfl (nx 1 rfl ?_)
  refine fB [44] h2 rfl (fun c42 h2 => ?_) fun c42 h2 => ?_
  ·refine nx 3 rfl (oC h2 rfl fun hk43 h2 => ?_)
   exact nx 2 rfl (eX _ (oi h2).symm (gE rfl rfl))
  exact nx 2 rfl (eX _ (oi h2).symm (gE rfl rfl))
 exact nx 2 rfl (eXi _ (oi h1).symm (gE rfl rfl))

def explain_Change (n : Nat) (c_0 : TChange) (s_1 : TSchema) : Option (List Bytes) :=
 (explain_sign c_0).bind fun r1 =>
 if r1 = ([] : Bytes) then
  some []
 else
  ck (r1.length + ([32] : Bytes).length ≤ 9223372036854775807) <|
  (explain_place c_0.fAddr c_0.fDeposed).bind fun r5 =>
  ck ((r1 ++ ([32] : Bytes)).length + r5.length ≤ 9223372036854775807) <|
  ck (((r1 ++ ([32] : Bytes)) ++ r5).length + ([58, 32] : Bytes).length ≤ 9223372036854775807) <|
  (explain_Reason c_0.fReason).bind fun r9 =>
  ck ((((r1 ++ ([32] : Bytes)) ++ r5) ++ ([58, 32] : Bytes)).length + r9.length ≤ 9223372036854775807) <|
  (
    if c_0.fImport = true then
     ck (((((r1 ++ ([32] : Bytes)) ++ r5) ++ ([58, 32] : Bytes)) ++ r9).length + ([44, 32, 105, 109, 112, 111, 114, 116, 101, 100] : Bytes).length ≤ 9223372036854775807) <|
     some (((((r1 ++ ([32] : Bytes)) ++ r5) ++ ([58, 32] : Bytes)) ++ r9) ++ ([44, 32, 105, 109, 112, 111, 114, 116, 101, 100] : Bytes))
    else
     some ((((r1 ++ ([32] : Bytes)) ++ r5) ++ ([58, 32] : Bytes)) ++ r9)
   : Option Bytes).bind fun head14 =>
  (
    if c_0.fAction = 1 then
     some true
    else
     some (decide (c_0.fAction = 5))
   : Option Bool).bind fun t16 =>
  if t16 = true then
   (explain_values n s_1 c_0.fAfter).bind fun r18 =>
   ck (([head14].length + r18.length) * 16 ≤ 140737488355328) <|
   some ([head14] ++ r18)
  else
   (
     if c_0.fAction = 2 then
      some true
     else
      some (decide (c_0.fAction = 3))
    : Option Bool).bind fun t22 =>
   if t22 = true then
    (explain_differences n s_1 c_0.fBefore c_0.fAfter c_0.fReplace).bind fun r24 =>
    ck (([head14].length + r24.length) * 16 ≤ 140737488355328) <|
    some ([head14] ++ r24)
   else
    some [head14]

set_option maxHeartbeats 4000000 in
theorem explain_Change_ok (n : Nat) (c_0 : TChange) (s_1 : TSchema) (r : (List Bytes)) (h0 : explain_Change n c_0 s_1 = some r) : PCalls Tryz.prog 13 [.agg (TChange.cs c_0), .agg (TSchema.cs s_1)] (· = .p (eL eS r)) := by
 unfold explain_Change at h0
 refine pbodyA good Tryz.func13 rfl rfl rfl fun w0 => mP (fun v : (List Bytes) => .p (eL eS v)) ?_
 refine nx 9 rfl (bd h0 fun r1 e2 h0 => ?_)
 refine oK (explain_sign_ok c_0 _ e2) rfl ⟨sr, trivial⟩ Tryz.call26 rfl (nx 6 rfl ?_)
 refine oS rfl rfl (nx 1 rfl ?_)
 refine fD [11] h0 rfl (fun c3 h0 => ?_) fun c3 h0 => ?_
 ·exact nx 6 rfl (mQ (oi h0) rfl (sub_nilL _))
 refine nx 3 rfl (cc' h0 fun hk4 h0 => ?_)
 refine bd h0 fun r5 e6 h0 => cc' h0 fun hk7 h0 => cc' h0 fun hk8 h0 => bd h0 fun r9 e10 h0 => cc' h0 fun hk11 h0 => mD [(2, .ptr 2 0), (3, .ptr 3 0), (5, .p (eS r1))] rfl ⟨rfl, rfl, rfl, trivial⟩ rfl (dR 1 rfl ?_)
 refine dq (.p (eS (r1 ++ ([32] : Bytes)))) [12] rfl (fun _ e _ q => one_op rfl (ok_concat rfl rfl rfl (e _ _ rfl) rfl hk4 q)) rfl (dR 4 rfl ?_)
 refine dq (.p (eS r5)) [15,17] rfl (fun _ e _ q => one_op rfl (ok_callP (explain_place_ok c_0.fAddr c_0.fDeposed _ e6) rfl rfl rfl (args_cons (e _ _ rfl) (args_cons (e _ _ rfl) args_nil)) ⟨sr, sr, trivial⟩ Tryz.call27 rfl q)) rfl (dq (.p (eS ((r1 ++ ([32] : Bytes)) ++ r5))) [13,18] rfl (fun _ e _ q => one_op rfl (ok_concat rfl rfl rfl (e _ _ rfl) (e _ _ rfl) hk7 q)) rfl ?_)
 refine dq (.p (eS (((r1 ++ ([32] : Bytes)) ++ r5) ++ ([58, 32] : Bytes)))) [19] rfl (fun _ e _ q => one_op rfl (ok_concat rfl rfl rfl (e _ _ rfl) rfl hk8 q)) rfl (dR 2 rfl ?_)
 refine dq (.p (eS r9)) [22] rfl (fun _ e _ q => one_op rfl (ok_callP (explain_Reason_ok c_0.fReason _ e10) rfl rfl rfl (args_cons (e _ _ rfl) args_nil) ⟨sr, trivial⟩ Tryz.call7 rfl q)) rfl (dq (.p (eS ((((r1 ++ ([32] : Bytes)) ++ r5) ++ ([58, 32] : Bytes)) ++ r9))) [20,23] rfl (fun _ e _ q => one_op rfl (ok_concat rfl rfl rfl (e _ _ rfl) (e _ _ rfl) hk11 q)) rfl ?_)
 refine dR 1 rfl (dE rfl ?_)
 refine nx 2 rfl (bd h0 fun o30 h1 h0 => ?_)
 refine kN o30 (fun v31 => ⟨[(2, .ptr 2 0), (3, .ptr 3 0), (6, .p (eS v31))], [(2, (TChange.cs c_0).map .p), (3, (TSchema.cs s_1).map .p)]⟩) ?_ ?_
 ·refine nx 4 rfl (mO rfl (op_bsliceV eS [o30] rfl rfl rfl rfl rfl rfl rfl rfl rfl rfl rfl rfl rfl rfl rfl rfl rfl ?_))
  refine nx 10 rfl (bd h0 fun o32 h1 h0 => ?_)
  refine kN o32 (fun v33 => ⟨[(2, .ptr 2 0), (3, .ptr 3 0), (7, .vec 30 1 0 ([o30].map eS)), (32, .p (eI c_0.fAction)), (33, .p (eB v33))], [(2, (TChange.cs c_0).map .p), (3, (TSchema.cs s_1).map .p)]⟩) ?_ ?_
  ·refine nx 1 rfl (fB [33] h0 rfl (fun c17 h0 => ?_) fun c17 h0 => ?_)
   ·refine nx 7 rfl (bd h0 fun r18 e19 h0 => ?_)
    refine oK (explain_values_ok _ s_1 c_0.fAfter _ e19) rfl ⟨sr, sr, trivial⟩ Tryz.call28 rfl (cc' h0 fun hk20 h0 => ?_)
    refine mO rfl (op_appV eS [o30] r18 rfl rfl rfl rfl rfl rfl rfl rfl rfl rfl rfl rfl rfl (fun _ => rfl) rfl rfl rfl rfl hk20 ?_)
    exact nx 3 rfl (mQ (oi h0) rfl (AV.sub_vec _ _ _ _))
   refine nx 2 rfl (bd h0 fun o34 h1 h0 => ?_)
   refine kN o34 (fun v35 => ⟨[(2, .ptr 2 0), (3, .ptr 3 0), (7, .vec 30 1 0 ([o30].map eS)), (42, .p (eB v35))], [(2, (TChange.cs c_0).map .p), (3, (TSchema.cs s_1).map .p)]⟩) ?_ ?_
   ·refine nx 1 rfl (fB [42] h0 rfl (fun c23 h0 => ?_) fun c23 h0 => ?_)
    ·refine nx 11 rfl (bd h0 fun r24 e25 h0 => ?_)
     refine oK (explain_differences_ok _ s_1 c_0.fBefore c_0.fAfter c_0.fReplace _ e25) rfl ⟨sr, sr, sr, sr, trivial⟩ Tryz.call29 rfl (cc' h0 fun hk26 h0 => ?_)
     refine mO rfl (op_appV eS [o30] r24 rfl rfl rfl rfl rfl rfl rfl rfl rfl rfl rfl rfl rfl (fun _ => rfl) rfl rfl rfl rfl hk26 ?_)
     exact nx 3 rfl (mQ (oi h0) rfl (AV.sub_vec _ _ _ _))
    exact nx 8 rfl (mQ (oi h0) rfl (AV.sub_vec _ _ _ _))
   refine nx 5 rfl (fD [42, 43] h1 rfl (fun c21 h1 => ?_) fun c21 h1 => ?_)
   ·exact nx 2 rfl (eX _ (oi h1).symm (gE rfl rfl))
   exact nx 5 rfl (eX _ (oi h1).symm (gE rfl rfl))
  refine nx 5 rfl (fD [33, 34] h1 rfl (fun c15 h1 => ?_) fun c15 h1 => ?_)
  ·exact nx 2 rfl (eX _ (oi h1).symm (gE rfl rfl))
  exact nx 5 rfl (eX _ (oi h1).symm (gE rfl rfl))
 refine nx 5 rfl (fB [26] h1 rfl (fun c12 h1 => ?_) fun c12 h1 => ?_)
 ·refine nx 3 rfl (oC h1 rfl fun hk13 h1 => ?_)
  exact nx 2 rfl (eX _ (oi h1).symm (gE rfl rfl))
 exact nx 2 rfl (eX _ (oi h1).symm (gE rfl rfl))

def slices_IndexFunc_api_Change_api_Change_l1 (s_0 : List TChange) (f_1 : TChange → Option Bool) : Nat → Int → Option (Unit ⊕ Int)
 | 0, _ => none
 | m + 1, t8 =>
 if t8 < (s_0.length : Int) then
  ck ((0 : Int) ≤ t8 ∧ t8 < (s_0.length : Int)) <|
  (f_1 (lat s_0 t8)).bind fun r11 =>
  if r11 = true then
   some (.inr t8)
  else
   ck (inR (t8 + 1)) <|
   slices_IndexFunc_api_Change_api_Change_l1 s_0 f_1 m (t8 + 1)
 else
  some (.inl ())

def slices_IndexFunc_api_Change_api_Change (n : Nat) (s_0 : List TChange) (f_1 : TChange → Option Bool) : Option Int :=
 jn (slices_IndexFunc_api_Change_api_Change_l1 s_0 f_1 n 0) fun q16 =>
 some (-1)

set_option maxHeartbeats 4000000 in
theorem slices_IndexFunc_api_Change_api_Change_ok (n : Nat) (s_0 : List TChange) (f_1 : TChange → Option Bool) (F_f_1 : FuncId) (C_f_1 : List AV) (K_f_1 : AV.mapA.go (fun _ => none) C_f_1 = some C_f_1) (E_f_1 : ∀ vs w, (callFunc F_f_1 vs).run Tryz.prog w = .ok (.enter F_f_1 vs) w) (H_f_1 : ∀ (x0 : TChange) r, f_1 x0 = some r → QCalls Tryz.prog F_f_1 ([.p (.agg (TChange.cs x0))] ++ C_f_1) (· = .p (eB r))) (r : Int) (h0 : slices_IndexFunc_api_Change_api_Change n s_0 f_1 = some r) : QCalls Tryz.prog 79 [.p (eL eTChange s_0), .func (.func F_f_1) C_f_1] (· = .p (eI r)) := by
 unfold slices_IndexFunc_api_Change_api_Change at h0
 refine qbodyA good Tryz.func79 rfl rfl rfl fun w0 => mP (fun v : Int => .p (eI v)) ?_
 refine nx 8 rfl (oLl (f := eTChange) rfl rfl ?_)
 refine nx 3 rfl ?_
 obtain ⟨o17, h1, hL0, hR0⟩ := jn_cut h0
 refine kEx 0 (fun v18 : Unit => o17 = .inl v18) (fun v18 => ⟨[], []⟩) (fun v18 hv => ?_) ?_
 ·have h0 := hL0 _ hv
  exact nx 6 rfl (mQ (oi h0) rfl (sr))
 refine lG (fun (q19 : Int) => ⟨[(0, .p (eL eTChange s_0)), (1, .func (.func F_f_1) C_f_1), (7, .p (eI (s_0.length : Int))), (8, .p (eI q19))], []⟩) (fun m (q19 : Int) => slices_IndexFunc_api_Change_api_Change_l1 s_0 f_1 m q19) (fun _ => rfl) 0 h1 (gE rfl rfl) ?_
 rintro m t8 h1
 replace h1 : slices_IndexFunc_api_Change_api_Change_l1 s_0 f_1 (m + 1) t8 = some o17 := h1
 rw [slices_IndexFunc_api_Change_api_Change_l1] at h1
 refine nx 5 rfl (fD [9] h1 rfl (fun c9 h1 => ?_) fun c9 h1 => ?_)
 ·refine nx 14 rfl (oE h1 TChange.cells_eq rfl rfl (fun _ => rfl) fun hk10 h1 => ?_)
  refine nx 1 rfl (bd h1 fun r11 e12 h1 => ?_)
  refine mG (gFn 1 C_f_1 rfl (by simp only [demL_cap K_f_1])) (mG (gFn 11 C_f_1 rfl (by simp only [demL_cap K_f_1])) ?_)
  refine mO rfl (ok_callF (q := [.p (.agg (TChange.cs (lat s_0 t8)))]) (H_f_1 (lat s_0 t8) _ e12) rfl rfl rfl rfl K_f_1 rfl rfl ⟨sr, trivial⟩ E_f_1 rfl ?_)
  refine nx 1 rfl (fB [16] h1 rfl (fun c13 h1 => ?_) fun c13 h1 => ?_)
  ·exact nx 7 rfl (mQ (hR0 _ (oi h1).symm) rfl (sr))
  refine nx 3 rfl (oA h1 rfl rfl fun hk14 h1 => ?_)
  exact nx 2 rfl (eX (t8 + 1) h1 (gE rfl rfl))
 exact nx 2 rfl (eXi _ (oi h1).symm (gE rfl rfl))

def slices_ContainsFunc_api_Change_api_Change (n : Nat) (s_0 : List TChange) (f_1 : TChange → Option Bool) : Option Bool :=
 (slices_IndexFunc_api_Change_api_Change n s_0 f_1).bind fun r1 =>
 some (decide (0 ≤ r1))

set_option maxHeartbeats 4000000 in
theorem slices_ContainsFunc_api_Change_api_Change_ok (n : Nat) (s_0 : List TChange) (f_1 : TChange → Option Bool) (F_f_1 : FuncId) (C_f_1 : List AV) (K_f_1 : AV.mapA.go (fun _ => none) C_f_1 = some C_f_1) (E_f_1 : ∀ vs w, (callFunc F_f_1 vs).run Tryz.prog w = .ok (.enter F_f_1 vs) w) (H_f_1 : ∀ (x0 : TChange) r, f_1 x0 = some r → QCalls Tryz.prog F_f_1 ([.p (.agg (TChange.cs x0))] ++ C_f_1) (· = .p (eB r))) (r : Bool) (h0 : slices_ContainsFunc_api_Change_api_Change n s_0 f_1 = some r) : QCalls Tryz.prog 44 [.p (eL eTChange s_0), .func (.func F_f_1) C_f_1] (· = .p (eB r)) := by
 unfold slices_ContainsFunc_api_Change_api_Change at h0
 refine qbodyA good Tryz.func44 rfl rfl rfl fun w0 => mP (fun v : Bool => .p (eB v)) ?_
 refine nx 8 rfl (bd h0 fun r1 e2 h0 => ?_)
 refine mO rfl (ok_callQ (slices_IndexFunc_api_Change_api_Change_ok _ s_0 f_1 F_f_1 C_f_1 K_f_1 E_f_1 H_f_1 _ e2) rfl rfl rfl rfl (mapAgo_cons rfl (mapAgo_cons (mapA_func K_f_1) mapAgo_nil)) ⟨sr, sr, trivial⟩ Tryz.call79 rfl ?_)
 exact nx 4 rfl (mQ (oi h0) rfl (sr))

def explain_Summary_1 (c_0 : TChange) : Option Bool :=
 some (!decide (c_0.fAction = 0))

set_option maxHeartbeats 4000000 in
theorem explain_Summary_1_ok (c_0 : TChange) (r : Bool) (h0 : explain_Summary_1 c_0 = some r) : PCalls Tryz.prog 45 [.agg (TChange.cs c_0)] (· = .p (eB r)) := by
 unfold explain_Summary_1 at h0
 refine pbodyA good Tryz.func45 rfl rfl rfl fun w0 => mP (fun v : Bool => .p (eB v)) ?_
 exact nx 13 rfl (mQ (oi h0) rfl (sr))

def diff_Counts_l1 (l_0 : List TChange) : Nat → Int → Int → Int → Int → Int → Option (Int × Int × Int × Int)
 | 0, _, _, _, _, _ => none
 | m + 1, create21, update22, replace23, remove24, t25 =>
 if t25 < (l_0.length : Int) then
  ck ((0 : Int) ≤ t25 ∧ t25 < (l_0.length : Int)) <|
  (
    if (lat l_0 t25).fAction = 1 then
     ck (inR (create21 + 1)) <|
     some (create21 + 1, update22, replace23, remove24)
    else
     if (lat l_0 t25).fAction = 2 then
      ck (inR (update22 + 1)) <|
      some (create21, update22 + 1, replace23, remove24)
     else
      if (lat l_0 t25).fAction = 3 then
       ck (inR (replace23 + 1)) <|
       some (create21, update22, replace23 + 1, remove24)
      else
       if (lat l_0 t25).fAction = 4 then
        ck (inR (remove24 + 1)) <|
        some (create21, update22, replace23, remove24 + 1)
       else
        some (create21, update22, replace23, remove24)
   : Option (Int × Int × Int × Int)).bind fun q51 =>
  ck (inR (t25 + 1)) <|
  diff_Counts_l1 l_0 m q51.1 q51.2.1 q51.2.2.1 q51.2.2.2 (t25 + 1)
 else
  some (create21, update22, replace23, remove24)

def diff_Counts (n : Nat) (l_0 : List TChange) : Option (Int × Int × Int × Int) :=
 (diff_Counts_l1 l_0 n 0 0 0 0 0).bind fun q50 =>
 some (q50.1, q50.2.1, q50.2.2.1, q50.2.2.2)

set_option maxHeartbeats 4000000 in
theorem diff_Counts_ok (n : Nat) (l_0 : List TChange) (r : Int × Int × Int × Int) (h0 : diff_Counts n l_0 = some r) : PCalls Tryz.prog 46 [eL eTChange l_0] (· = .tuple [.p (eI r.1), .p (eI r.2.1), .p (eI r.2.2.1), .p (eI r.2.2.2)]) := by
 unfold diff_Counts at h0
 refine pbodyA good Tryz.func46 rfl rfl rfl fun w0 => mP (fun v : Int × Int × Int × Int => .tuple [.p (eI v.1), .p (eI v.2.1), .p (eI v.2.2.1), .p (eI v.2.2.2)]) ?_
 refine nx 11 rfl (oLl (f := eTChange) rfl rfl ?_)
 refine nx 3 rfl (bd h0 fun o52 h1 h0 => ?_)
 refine kE 0 o52 (fun v53 => ⟨[(2, .p (eI v53.1)), (3, .p (eI v53.2.1)), (4, .p (eI v53.2.2.1)), (5, .p (eI v53.2.2.2))], []⟩) ?_ ?_
 ·exact nx 13 rfl (mQ (oi h0) rfl (sub_tuple ⟨sr, sr, sr, sr, trivial⟩))
 refine lG (fun (q54 : Int × Int × Int × Int × Int) => ⟨[(2, .p (eI q54.1)), (3, .p (eI q54.2.1)), (4, .p (eI q54.2.2.1)), (5, .p (eI q54.2.2.2.1)), (8, .p (eL eTChange l_0)), (9, .p (eI (l_0.length : Int))), (10, .p (eI q54.2.2.2.2))], []⟩) (fun m (q54 : Int × Int × Int × Int × Int) => diff_Counts_l1 l_0 m q54.1 q54.2.1 q54.2.2.1 q54.2.2.2.1 q54.2.2.2.2) (fun _ => rfl) (0, 0, 0, 0, 0) h1 (gE rfl rfl) ?_
 rintro m ⟨create21, update22, replace23, remove24, t25⟩ h1
 replace h1 : diff_Counts_l1 l_0 (m + 1) create21 update22 replace23 remove24 t25 = some o52 := h1
 rw [diff_Counts_l1] at h1
 refine nx 5 rfl (fD [11] h1 rfl (fun c26 h1 => ?_) fun c26 h1 => ?_)
 ·refine nx 6 rfl (oE h1 TChange.cells_eq rfl rfl (fun _ => rfl) fun hk27 h1 => ?_)
  refine nx 9 rfl (bd h1 fun o55 h2 h1 => ?_)
  refine kN o55 (fun v56 => ⟨[(2, .p (eI v56.1)), (3, .p (eI v56.2.1)), (4, .p (eI v56.2.2.1)), (5, .p (eI v56.2.2.2)), (8, .p (eL eTChange l_0)), (9, .p (eI (l_0.length : Int))), (10, .p (eI t25))], []⟩) ?_ ?_
  ·refine nx 2 rfl (oA h1 rfl rfl fun hk40 h1 => ?_)
   exact nx 2 rfl (eX (o55.1, o55.2.1, o55.2.2.1, o55.2.2.2, t25 + 1) h1 (gE rfl rfl))
  refine nx 6 rfl (fD [16, 17] h2 rfl (fun c28 h2 => ?_) fun c28 h2 => ?_)
  ·refine nx 3 rfl (oA h2 rfl rfl fun hk29 h2 => ?_)
   exact nx 2 rfl (eX _ (oi h2).symm (gE rfl rfl))
  refine nx 6 rfl (fD [20, 21] h2 rfl (fun c30 h2 => ?_) fun c30 h2 => ?_)
  ·refine nx 3 rfl (oA h2 rfl rfl fun hk31 h2 => ?_)
   exact nx 2 rfl (eX _ (oi h2).symm (gE rfl rfl))
  refine nx 6 rfl (fD [24, 25] h2 rfl (fun c32 h2 => ?_) fun c32 h2 => ?_)
  ·refine nx 3 rfl (oA h2 rfl rfl fun hk33 h2 => ?_)
   exact nx 2 rfl (eX _ (oi h2).symm (gE rfl rfl))
  refine nx 6 rfl (fD [28, 29] h2 rfl (fun c34 h2 => ?_) fun c34 h2 => ?_)
  ·refine nx 3 rfl (oA h2 rfl rfl fun hk35 h2 => ?_)
   exact nx 2 rfl (eX _ (oi h2).symm (gE rfl rfl))
  exact nx 2 rfl (eX _ (oi h2).symm (gE rfl rfl))
 exact nx 2 rfl (eXi _ (oi h1).symm (gE rfl rfl))

def explain_Summary_l1 (n : Nat) (p_0 : TPlan) : Nat → Bool → Int → Option Bool
 | 0, _, _ => none
 | m + 1, quiet13, t14 =>
 if t14 < (p_0.fOutputs.length : Int) then
  (
    ck ((0 : Int) ≤ t14 ∧ t14 < (p_0.fOutputs.length : Int)) <|
    if quiet13 = true then
     (value_Equal n ((lat p_0.fOutputs t14).fBefore) ((lat p_0.fOutputs t14).fAfter)).bind fun r18 =>
     some r18
    else
     some false
   : Option Bool).bind fun quiet20 =>
  ck (inR (t14 + 1)) <|
  explain_Summary_l1 n p_0 m quiet20 (t14 + 1)
 else
  some quiet13

def explain_Summary (n : Nat) (p_0 : TPlan) : Option Bytes :=
 (slices_ContainsFunc_api_Change_api_Change n p_0.fChanges (fun x0 => explain_Summary_1 x0)).bind fun r2 =>
 (explain_Summary_l1 n p_0 n (!r2) 0).bind fun quiet24 =>
 if quiet24 = true then
  some ([110, 111, 32, 99, 104, 97, 110, 103, 101, 115] : Bytes)
 else
  (diff_Counts n p_0.fChanges).bind fun r26 =>
  (strconv_Itoa r26.1).bind fun r28 =>
  ck (r28.length + ([32, 116, 111, 32, 99, 114, 101, 97, 116, 101, 44, 32] : Bytes).length ≤ 9223372036854775807) <|
  (strconv_Itoa r26.2.1).bind fun r31 =>
  ck ((r28 ++ ([32, 116, 111, 32, 99, 114, 101, 97, 116, 101, 44, 32] : Bytes)).length + r31.length ≤ 9223372036854775807) <|
  ck (((r28 ++ ([32, 116, 111, 32, 99, 114, 101, 97, 116, 101, 44, 32] : Bytes)) ++ r31).length + ([32, 116, 111, 32, 117, 112, 100, 97, 116, 101, 44, 32] : Bytes).length ≤ 9223372036854775807) <|
  (strconv_Itoa r26.2.2.1).bind fun r35 =>
  ck ((((r28 ++ ([32, 116, 111, 32, 99, 114, 101, 97, 116, 101, 44, 32] : Bytes)) ++ r31) ++ ([32, 116, 111, 32, 117, 112, 100, 97, 116, 101, 44, 32] : Bytes)).length + r35.length ≤ 9223372036854775807) <|
  ck (((((r28 ++ ([32, 116, 111, 32, 99, 114, 101, 97, 116, 101, 44, 32] : Bytes)) ++ r31) ++ ([32, 116, 111, 32, 117, 112, 100, 97, 116, 101, 44, 32] : Bytes)) ++ r35).length + ([32, 116, 111, 32, 114, 101, 112, 108, 97, 99, 101, 44, 32] : Bytes).length ≤ 9223372036854775807) <|
  (strconv_Itoa r26.2.2.2).bind fun r39 =>
  ck ((((((r28 ++ ([32, 116, 111, 32, 99, 114, 101, 97, 116, 101, 44, 32] : Bytes)) ++ r31) ++ ([32, 116, 111, 32, 117, 112, 100, 97, 116, 101, 44, 32] : Bytes)) ++ r35) ++ ([32, 116, 111, 32, 114, 101, 112, 108, 97, 99, 101, 44, 32] : Bytes)).length + r39.length ≤ 9223372036854775807) <|
  ck (((((((r28 ++ ([32, 116, 111, 32, 99, 114, 101, 97, 116, 101, 44, 32] : Bytes)) ++ r31) ++ ([32, 116, 111, 32, 117, 112, 100, 97, 116, 101, 44, 32] : Bytes)) ++ r35) ++ ([32, 116, 111, 32, 114, 101, 112, 108, 97, 99, 101, 44, 32] : Bytes)) ++ r39).length + ([32, 116, 111, 32, 100, 101, 108, 101, 116, 101] : Bytes).length ≤ 9223372036854775807) <|
  some (((((((r28 ++ ([32, 116, 111, 32, 99, 114, 101, 97, 116, 101, 44, 32] : Bytes)) ++ r31) ++ ([32, 116, 111, 32, 117, 112, 100, 97, 116, 101, 44, 32] : Bytes)) ++ r35) ++ ([32, 116, 111, 32, 114, 101, 112, 108, 97, 99, 101, 44, 32] : Bytes)) ++ r39) ++ ([32, 116, 111, 32, 100, 101, 108, 101, 116, 101] : Bytes))

set_option maxHeartbeats 4000000 in
theorem explain_Summary_ok (n : Nat) (p_0 : TPlan) (r : Bytes) (h0 : explain_Summary n p_0 = some r) : PCalls Tryz.prog 17 [.agg (TPlan.cs p_0)] (· = .p (eS r)) := by
 unfold explain_Summary at h0
 refine pbodyA good Tryz.func17 rfl rfl rfl fun w0 => mP (fun v : Bytes => .p (eS v)) ?_
 refine nx 9 rfl (bd h0 fun r2 e3 h0 => ?_)
 refine mO rfl (ok_callQ (slices_ContainsFunc_api_Change_api_Change_ok _ p_0.fChanges (fun x0 => explain_Summary_1 x0) 45 [] rfl Tryz.call45 (fun x0 r h => (explain_Summary_1_ok x0 r h).q) _ e3) rfl rfl rfl rfl (mapAgo_cons rfl (mapAgo_cons (mapA_func rfl) mapAgo_nil)) ⟨sr, sr, trivial⟩ Tryz.call44 rfl ?_)
 refine nx 8 rfl (oLl (f := eTOutputChange) rfl rfl ?_)
 refine nx 3 rfl (bd h0 fun o45 h1 h0 => ?_)
 refine kE 0 o45 (fun v46 => ⟨[(1, .ptr 1 0), (3, .p (eB v46))], [(1, (TPlan.cs p_0).map .p)]⟩) ?_ ?_
 ·refine nx 6 rfl (fB [3, 30] h0 rfl (fun c25 h0 => ?_) fun c25 h0 => ?_)
  ·exact nx 6 rfl (mQ (oi h0) rfl (sr))
  refine nx 6 rfl (bd h0 fun r26 e27 h0 => ?_)
  refine oK (diff_Counts_ok _ p_0.fChanges _ e27) rfl ⟨sr, trivial⟩ Tryz.call46 rfl (nx 13 rfl ?_)
  refine bd h0 fun r28 e29 h0 => oK (strconv_Itoa_ok r26.1 _ e29) rfl ⟨sr, trivial⟩ Tryz.call47 rfl (oC h0 rfl fun hk30 h0 => ?_)
  refine nx 1 rfl (bd h0 fun r31 e32 h0 => ?_)
  refine oK (strconv_Itoa_ok r26.2.1 _ e32) rfl ⟨sr, trivial⟩ Tryz.call47 rfl (oC h0 rfl fun hk33 h0 => ?_)
  refine oC h0 rfl fun hk34 h0 => nx 1 rfl (bd h0 fun r35 e36 h0 => ?_)
  refine oK (strconv_Itoa_ok r26.2.2.1 _ e36) rfl ⟨sr, trivial⟩ Tryz.call47 rfl (oC h0 rfl fun hk37 h0 => ?_)
  refine oC h0 rfl fun hk38 h0 => nx 1 rfl (bd h0 fun r39 e40 h0 => ?_)
  refine oK (strconv_Itoa_ok r26.2.2.2 _ e40) rfl ⟨sr, trivial⟩ Tryz.call47 rfl (oC h0 rfl fun hk41 h0 => ?_)
  refine oC h0 rfl fun hk42 h0 => nx 2 rfl (mG (gE (t := ⟨[(2, .p (eS (((((((r28 ++ ([32, 116, 111, 32, 99, 114, 101, 97, 116, 101, 44, 32] : Bytes)) ++ r31) ++ ([32, 116, 111, 32, 117, 112, 100, 97, 116, 101, 44, 32] : Bytes)) ++ r35) ++ ([32, 116, 111, 32, 114, 101, 112, 108, 97, 99, 101, 44, 32] : Bytes)) ++ r39) ++ ([32, 116, 111, 32, 100, 101, 108, 101, 116, 101] : Bytes))))], []⟩) rfl rfl) ?_)
  exact nx 1 rfl (mQ (oi h0) rfl (sr))
 refine lG (fun (q47 : Bool × Int) => ⟨[(1, .ptr 1 0), (3, .p (eB q47.1)), (15, .p (eL eTOutputChange p_0.fOutputs)), (16, .p (eI (p_0.fOutputs.length : Int))), (17, .p (eI q47.2))], [(1, (TPlan.cs p_0).map .p)]⟩) (fun m (q47 : Bool × Int) => explain_Summary_l1 n p_0 m q47.1 q47.2) (fun _ => rfl) (!r2, 0) h1 (gE rfl rfl) ?_
 rintro m ⟨quiet13, t14⟩ h1
 replace h1 : explain_Summary_l1 n p_0 (m + 1) quiet13 t14 = some o45 := h1
 rw [explain_Summary_l1] at h1
 refine nx 5 rfl (fD [18] h1 rfl (fun c15 h1 => ?_) fun c15 h1 => ?_)
 ·refine nx 3 rfl (bd h1 fun o48 h2 h1 => ?_)
  refine kN o48 (fun v49 => ⟨[(1, .ptr 1 0), (3, .p (eB v49)), (15, .p (eL eTOutputChange p_0.fOutputs)), (16, .p (eI (p_0.fOutputs.length : Int))), (17, .p (eI t14))], [(1, (TPlan.cs p_0).map .p)]⟩) ?_ ?_
  ·refine nx 2 rfl (oA h1 rfl rfl fun hk21 h1 => ?_)
   exact nx 2 rfl (eX (o48, t14 + 1) h1 (gE rfl rfl))
  refine nx 3 rfl (oE h2 TOutputChange.cells_eq rfl rfl (fun _ => rfl) fun hk16 h2 => ?_)
  refine nx 7 rfl (fB [3, 21, 22] h2 rfl (fun c17 h2 => ?_) fun c17 h2 => ?_)
  ·refine nx 4 rfl (bd h2 fun r18 e19 h2 => ?_)
   refine oK (value_Equal_ok _ ((lat p_0.fOutputs t14).fBefore) ((lat p_0.fOutputs t14).fAfter) _ e19) rfl ⟨sr, sr, trivial⟩ Tryz.call41 rfl (nx 3 rfl ?_)
   exact eX _ (oi h2).symm (gE rfl rfl)
  exact nx 8 rfl (eX _ (oi h2).symm (gE rfl rfl))
 exact nx 2 rfl (eXi _ (oi h1).symm (gE rfl rfl))

def explain_typed_l1 (types_0 : List TResourceType) (name_1 : Bytes) : Nat → Int → Option (Unit ⊕ TSchema)
 | 0, _ => none
 | m + 1, t6 =>
 if t6 < (types_0.length : Int) then
  ck ((0 : Int) ≤ t6 ∧ t6 < (types_0.length : Int)) <|
  if (lat types_0 t6).fName = name_1 then
   some (.inr ((lat types_0 t6).fSchema))
  else
   ck (inR (t6 + 1)) <|
   explain_typed_l1 types_0 name_1 m (t6 + 1)
 else
  some (.inl ())

def explain_typed (n : Nat) (types_0 : List TResourceType) (name_1 : Bytes) : Option TSchema :=
 jn (explain_typed_l1 types_0 name_1 n 0) fun q12 =>
 some (TSchema.mk [] [])

set_option maxHeartbeats 4000000 in
theorem explain_typed_ok (n : Nat) (types_0 : List TResourceType) (name_1 : Bytes) (r : TSchema) (h0 : explain_typed n types_0 name_1 = some r) : PCalls Tryz.prog 40 [eL eTResourceType types_0, eS name_1] (· = .p (.agg (TSchema.cs r))) := by
 unfold explain_typed at h0
 refine pbodyA good Tryz.func40 rfl rfl rfl fun w0 => mP (fun v : TSchema => .p (.agg (TSchema.cs v))) ?_
 refine nx 8 rfl (oLl (f := eTResourceType) rfl rfl ?_)
 refine nx 3 rfl ?_
 obtain ⟨o13, h1, hL0, hR0⟩ := jn_cut h0
 refine kEx 0 (fun v14 : Unit => o13 = .inl v14) (fun v14 => ⟨[(4, .ptr 4 0)], [(4, [.p (.val (.slice none 0 0)), .p (.val (.slice none 0 0))])]⟩) (fun v14 hv => ?_) ?_
 ·have h0 := hL0 _ hv
  exact nx 7 rfl (mQ (oi h0) rfl (sub_cells ⟨.inr ⟨rfl, rfl⟩, .inr ⟨rfl, rfl⟩, trivial⟩))
 refine lG (fun (q15 : Int) => ⟨[(1, .p (eS name_1)), (4, .ptr 4 0), (7, .p (eL eTResourceType types_0)), (8, .p (eI (types_0.length : Int))), (9, .p (eI q15))], [(4, [.p (.val (.slice none 0 0)), .p (.val (.slice none 0 0))])]⟩) (fun m (q15 : Int) => explain_typed_l1 types_0 name_1 m q15) (fun _ => rfl) 0 h1 (gE rfl rfl) ?_
 rintro m t6 h1
 replace h1 : explain_typed_l1 types_0 name_1 (m + 1) t6 = some o13 := h1
 rw [explain_typed_l1] at h1
 refine nx 5 rfl (fD [10] h1 rfl (fun c7 h1 => ?_) fun c7 h1 => ?_)
 ·refine nx 6 rfl (oE h1 TResourceType.cells_eq rfl rfl (fun _ => rfl) fun hk8 h1 => ?_)
  refine nx 9 rfl (oS rfl rfl ?_)
  refine nx 1 rfl (fD [16] h1 rfl (fun c9 h1 => ?_) fun c9 h1 => ?_)
  ·exact nx 8 rfl (mQ (hR0 _ (oi h1).symm) rfl (sr))
  refine nx 3 rfl (oA h1 rfl rfl fun hk10 h1 => ?_)
  exact nx 2 rfl (eX (t6 + 1) h1 (gE rfl rfl))
 exact nx 2 rfl (eXi _ (oi h1).symm (gE rfl rfl))

def explain_secret (n : Nat) (v_0 : TValue) (sensitive_1 : Bool) : Option Bytes :=
 (
   (
     if sensitive_1 = true then
      some (!decide (v_0.fKind = 0))
     else
      some false
    : Option Bool).bind fun t2 =>
   if t2 = true then
    (value_String ([40, 115, 101, 110, 115, 105, 116, 105, 118, 101, 41] : Bytes)).bind fun r4 =>
    some (r4.fKind, r4.fNum, r4.fStr, r4.fItems, r4.fKeys)
   else
    some (v_0.fKind, v_0.fNum, v_0.fStr, v_0.fItems, v_0.fKeys)
  : Option (Int × Int × Bytes × (List TValue) × (List Bytes))).bind fun q13 =>
 (valuetext_Format n (TValue.mk q13.1 q13.2.1 q13.2.2.1 q13.2.2.2.1 q13.2.2.2.2)).bind fun r11 =>
 some r11

set_option maxHeartbeats 4000000 in
theorem explain_secret_ok (n : Nat) (v_0 : TValue) (sensitive_1 : Bool) (r : Bytes) (h0 : explain_secret n v_0 sensitive_1 = some r) : PCalls Tryz.prog 42 [.agg (TValue.cs v_0), eB sensitive_1] (· = .p (eS r)) := by
 unfold explain_secret at h0
 refine pbodyA good Tryz.func42 rfl rfl rfl fun w0 => mP (fun v : Bytes => .p (eS v)) ?_
 refine nx 6 rfl (bd h0 fun o15 h1 h0 => ?_)
 refine kN o15 (fun v16 => ⟨[(2, .ptr 2 0)], [(2, [.p (eI v16.1), .p (eI v16.2.1), .p (eS v16.2.2.1), .p (eL eTValue v16.2.2.2.1), .p (eL eS v16.2.2.2.2)])]⟩) ?_ ?_
 ·refine nx 4 rfl (bd h0 fun r11 e12 h0 => ?_)
  refine oK (valuetext_Format_ok _ (TValue.mk o15.1 o15.2.1 o15.2.2.1 o15.2.2.2.1 o15.2.2.2.2) _ e12) rfl ⟨sr, trivial⟩ Tryz.call60 rfl (nx 3 rfl ?_)
  exact mQ (oi h0) rfl (sr)
 refine nx 1 rfl (bd h1 fun o17 h2 h1 => ?_)
 refine kN o17 (fun v18 => ⟨[(2, .ptr 2 0), (10, .p (eB v18))], [(2, (TValue.cs v_0).map .p)]⟩) ?_ ?_
 ·refine nx 1 rfl (fB [10] h1 rfl (fun c3 h1 => ?_) fun c3 h1 => ?_)
  ·refine nx 2 rfl (bd h1 fun r4 e5 h1 => ?_)
   refine oK (value_String_ok ([40, 115, 101, 110, 115, 105, 116, 105, 118, 101, 41] : Bytes) _ e5) rfl ⟨sr, trivial⟩ Tryz.call75 rfl (nx 2 rfl ?_)
   exact eX _ (oi h1).symm (gE rfl rfl)
  exact nx 2 rfl (eX _ (oi h1).symm (gE rfl rfl))
 refine nx 3 rfl (fB [1, 5, 6] h2 rfl (fun c1 h2 => ?_) fun c1 h2 => ?_)
 ·exact nx 5 rfl (eX _ (oi h2).symm (gE rfl rfl))
 exact nx 5 rfl (eX _ (oi h2).symm (gE rfl rfl))

def explain_Plan_l1 (p_0 : TPlan) : Nat → Option Unit
 | 0 => none
 | m + 1 =>
 if 0 < (p_0.fDrift.length : Int) then
  ck ((0 : Int) ≤ 0 ∧ 0 < (p_0.fDrift.length : Int)) <|
  none
 else
  some ()

def explain_Plan_l2 (p_0 : TPlan) : Nat → (List Bytes) → Int → Option (List Bytes)
 | 0, _, _ => none
 | m + 1, l12, t13 =>
 if t13 < (p_0.fMoved.length : Int) then
  ck ((0 : Int) ≤ t13 ∧ t13 < (p_0.fMoved.length : Int)) <|
  ck (([62, 32] : Bytes).length + ((lat p_0.fMoved t13).fFrom).length ≤ 9223372036854775807) <|
  ck ((([62, 32] : Bytes) ++ ((lat p_0.fMoved t13).fFrom)).length + ([32, 45, 62, 32] : Bytes).length ≤ 9223372036854775807) <|
  ck (((([62, 32] : Bytes) ++ ((lat p_0.fMoved t13).fFrom)) ++ ([32, 45, 62, 32] : Bytes)).length + ((lat p_0.fMoved t13).fTo).length ≤ 9223372036854775807) <|
  ck ((l12.length + ([((([62, 32] : Bytes) ++ ((lat p_0.fMoved t13).fFrom)) ++ ([32, 45, 62, 32] : Bytes)) ++ ((lat p_0.fMoved t13).fTo)]).length) * 16 ≤ 140737488355328) <|
  ck (inR (t13 + 1)) <|
  explain_Plan_l2 p_0 m (l12 ++ ([((([62, 32] : Bytes) ++ ((lat p_0.fMoved t13).fFrom)) ++ ([32, 45, 62, 32] : Bytes)) ++ ((lat p_0.fMoved t13).fTo)])) (t13 + 1)
 else
  some l12

def explain_Plan_l3 (n : Nat) (p_0 : TPlan) (types_1 : List TResourceType) : Nat → (List Bytes) → Int → Option (List Bytes)
 | 0, _, _ => none
 | m + 1, l34, t35 =>
 if t35 < (p_0.fChanges.length : Int) then
  ck ((0 : Int) ≤ t35 ∧ t35 < (p_0.fChanges.length : Int)) <|
  (explain_typed n types_1 ((lat p_0.fChanges t35).fType)).bind fun r38 =>
  (explain_Change n (lat p_0.fChanges t35) r38).bind fun r40 =>
  ck ((l34.length + r40.length) * 16 ≤ 140737488355328) <|
  ck (inR (t35 + 1)) <|
  explain_Plan_l3 n p_0 types_1 m (l34 ++ r40) (t35 + 1)
 else
  some l34

def explain_Plan_l4 (n : Nat) (p_0 : TPlan) : Nat → (List Bytes) → Int → Option (List Bytes)
 | 0, _, _ => none
 | m + 1, l66, t67 =>
 if t67 < (p_0.fOutputs.length : Int) then
  (
    ck ((0 : Int) ≤ t67 ∧ t67 < (p_0.fOutputs.length : Int)) <|
    (value_Equal n ((lat p_0.fOutputs t67).fBefore) ((lat p_0.fOutputs t67).fAfter)).bind fun r70 =>
    if (!r70) = true then
     ck (([111, 117, 116, 112, 117, 116, 32] : Bytes).length + ((lat p_0.fOutputs t67).fName).length ≤ 9223372036854775807) <|
     ck ((([111, 117, 116, 112, 117, 116, 32] : Bytes) ++ ((lat p_0.fOutputs t67).fName)).length + ([32, 61, 32] : Bytes).length ≤ 9223372036854775807) <|
     (explain_secret n ((lat p_0.fOutputs t67).fBefore) ((lat p_0.fOutputs t67).fSensitive)).bind fun r75 =>
     ck (((([111, 117, 116, 112, 117, 116, 32] : Bytes) ++ ((lat p_0.fOutputs t67).fName)) ++ ([32, 61, 32] : Bytes)).length + r75.length ≤ 9223372036854775807) <|
     ck ((((([111, 117, 116, 112, 117, 116, 32] : Bytes) ++ ((lat p_0.fOutputs t67).fName)) ++ ([32, 61, 32] : Bytes)) ++ r75).length + ([32, 45, 62, 32] : Bytes).length ≤ 9223372036854775807) <|
     (explain_secret n ((lat p_0.fOutputs t67).fAfter) ((lat p_0.fOutputs t67).fSensitive)).bind fun r79 =>
     ck (((((([111, 117, 116, 112, 117, 116, 32] : Bytes) ++ ((lat p_0.fOutputs t67).fName)) ++ ([32, 61, 32] : Bytes)) ++ r75) ++ ([32, 45, 62, 32] : Bytes)).length + r79.length ≤ 9223372036854775807) <|
     ck ((l66.length + ([((((([111, 117, 116, 112, 117, 116, 32] : Bytes) ++ ((lat p_0.fOutputs t67).fName)) ++ ([32, 61, 32] : Bytes)) ++ r75) ++ ([32, 45, 62, 32] : Bytes)) ++ r79]).length) * 16 ≤ 140737488355328) <|
     some (l66 ++ ([((((([111, 117, 116, 112, 117, 116, 32] : Bytes) ++ ((lat p_0.fOutputs t67).fName)) ++ ([32, 61, 32] : Bytes)) ++ r75) ++ ([32, 45, 62, 32] : Bytes)) ++ r79]))
    else
     some l66
   : Option (List Bytes)).bind fun l83 =>
  ck (inR (t67 + 1)) <|
  explain_Plan_l4 n p_0 m l83 (t67 + 1)
 else
  some l66

def explain_Plan (n : Nat) (p_0 : TPlan) (types_1 : List TResourceType) : Option Bytes :=
 (explain_Plan_l1 p_0 n ).bind fun q94 =>
 (explain_Plan_l2 p_0 n [] 0).bind fun l23 =>
 (explain_Plan_l3 n p_0 types_1 n l23 0).bind fun l46 =>
 (explain_Plan_l4 n p_0 n l46 0).bind fun l87 =>
 (explain_Summary n p_0).bind fun r88 =>
 ck ((l87.length + [r88].length) * 16 ≤ 140737488355328) <|
 (strings_Join (l87 ++ [r88]) ([10] : Bytes)).bind fun r91 =>
 ck (r91.length + ([10] : Bytes).length ≤ 9223372036854775807) <|
 some (r91 ++ ([10] : Bytes))

set_option maxHeartbeats 4000000 in
theorem explain_Plan_ok (n : Nat) (p_0 : TPlan) (types_1 : List TResourceType) (r : Bytes) (h0 : explain_Plan n p_0 types_1 = some r) : PCalls Tryz.prog 16 [.agg (TPlan.cs p_0), eL eTResourceType types_1] (· = .p (eS r)) := by
 unfold explain_Plan at h0
 refine pbodyA good Tryz.func16 rfl rfl rfl fun w0 => mP (fun v : Bytes => .p (eS v)) ?_
 refine nx 14 rfl (oLl (f := eTDrift) rfl rfl ?_)
 refine nx 3 rfl (bd h0 fun o99 h1 h0 => ?_)
 refine kE 0 o99 (fun v100 => ⟨[(1, .p (eL eTResourceType types_1)), (2, .ptr 2 0), (5, .p (.val (.slice none 0 0)))], [(2, (TPlan.cs p_0).map .p)]⟩) ?_ ?_
 ·refine nx 6 rfl (oLl (f := eTMove) rfl rfl ?_)
  refine nx 3 rfl (bd h0 fun o101 h1 h0 => ?_)
  refine kE 2 o101 (fun v102 => ⟨[(1, .p (eL eTResourceType types_1)), (2, .ptr 2 0), (5, .vec 43 1 0 (v102.map eS))], [(2, (TPlan.cs p_0).map .p)]⟩) ?_ ?_
  ·refine nx 6 rfl (oLl (f := eTChange) rfl rfl ?_)
   refine nx 3 rfl (bd h0 fun o103 h1 h0 => ?_)
   refine kE 4 o103 (fun v104 => ⟨[(2, .ptr 2 0), (5, .vec 59 1 0 (v104.map eS))], [(2, (TPlan.cs p_0).map .p)]⟩) ?_ ?_
   ·refine nx 6 rfl (oLl (f := eTOutputChange) rfl rfl ?_)
    refine nx 3 rfl (bd h0 fun o105 h1 h0 => ?_)
    refine kE 6 o105 (fun v106 => ⟨[(2, .ptr 2 0), (5, .vec 93 1 0 (v106.map eS))], [(2, (TPlan.cs p_0).map .p)]⟩) ?_ ?_
    ·refine nx 5 rfl (bd h0 fun r88 e89 h0 => ?_)
     refine oK (explain_Summary_ok _ p_0 _ e89) rfl ⟨sr, trivial⟩ Tryz.call17 rfl (mO rfl (op_bslice eS [r88] rfl rfl rfl rfl rfl rfl rfl rfl rfl rfl rfl rfl rfl rfl ?_))
     refine cc' h0 fun hk90 h0 => mO rfl (op_appV eS o105 [r88] rfl rfl rfl rfl rfl rfl rfl rfl rfl rfl rfl rfl rfl (fun _ => rfl) rfl rfl rfl rfl hk90 ?_)
     refine bd h0 fun r91 e92 h0 => oK (strings_Join_ok (o105 ++ [r88]) ([10] : Bytes) _ e92) rfl ⟨AV.sub_vec _ _ _ _, sr, trivial⟩ Tryz.call43 rfl (oC h0 rfl fun hk93 h0 => ?_)
     exact nx 3 rfl (mQ (oi h0) rfl (sr))
    refine lG (fun (q107 : (List Bytes) × Int) => ⟨[(2, .ptr 2 0), (5, .vec 93 1 0 (q107.1.map eS)), (62, .p (eL eTOutputChange p_0.fOutputs)), (63, .p (eI (p_0.fOutputs.length : Int))), (64, .p (eI q107.2))], [(2, (TPlan.cs p_0).map .p)]⟩) (fun m (q107 : (List Bytes) × Int) => explain_Plan_l4 n p_0 m q107.1 q107.2) (fun _ => rfl) (o103, 0) h1 (ghost_trans (ghost_ren 59 93 rfl rfl rfl rfl rfl) (gE rfl rfl)) ?_
    rintro m ⟨l66, t67⟩ h1
    replace h1 : explain_Plan_l4 n p_0 (m + 1) l66 t67 = some o105 := h1
    rw [explain_Plan_l4] at h1
    refine nx 5 rfl (fD [65] h1 rfl (fun c68 h1 => ?_) fun c68 h1 => ?_)
    ·refine nx 3 rfl (bd h1 fun o108 h2 h1 => ?_)
     refine kN o108 (fun v109 => ⟨[(2, .ptr 2 0), (5, .vec 93 1 0 (v109.map eS)), (62, .p (eL eTOutputChange p_0.fOutputs)), (63, .p (eI (p_0.fOutputs.length : Int))), (64, .p (eI t67))], [(2, (TPlan.cs p_0).map .p)]⟩) ?_ ?_
     ·refine nx 2 rfl (oA h1 rfl rfl fun hk84 h1 => ?_)
      exact nx 2 rfl (eX (o108, t67 + 1) h1 (gE rfl rfl))
     refine nx 3 rfl (oE h2 TOutputChange.cells_eq rfl rfl (fun _ => rfl) fun hk69 h2 => ?_)
     refine nx 10 rfl (bd h2 fun r70 e71 h2 => ?_)
     refine oK (value_Equal_ok _ ((lat p_0.fOutputs t67).fBefore) ((lat p_0.fOutputs t67).fAfter) _ e71) rfl ⟨sr, sr, trivial⟩ Tryz.call41 rfl (nx 2 rfl ?_)
     refine fB [73] h2 rfl (fun c72 h2 => ?_) fun c72 h2 => ?_
     ·refine nx 1 rfl (cc' h2 fun hk73 h2 => ?_)
      refine cc' h2 fun hk74 h2 => bd h2 fun r75 e76 h2 => cc' h2 fun hk77 h2 => cc' h2 fun hk78 h2 => bd h2 fun r79 e80 h2 => cc' h2 fun hk81 h2 => cc' h2 fun hk82 h2 => mG (gE (t := ⟨[(2, .ptr 2 0), (5, .vec 93 1 0 (l66.map eS)), (13, .ptr 13 0), (62, .p (eL eTOutputChange p_0.fOutputs)), (63, .p (eI (p_0.fOutputs.length : Int))), (64, .p (eI t67))], [(2, (TPlan.cs p_0).map .p), (13, (TOutputChange.cs (lat p_0.fOutputs t67)).map .p)]⟩) rfl rfl) (mS ⟨2, [19, 20], (by3 (.some fun i => Nat.beq i 93 || Nat.beq i 93) .none .none), (by3 [(2, .ptr 2 0), (5, .vec 93 1 0 (l66.map eS)), (13, .ptr 13 0), (62, .p (eL eTOutputChange p_0.fOutputs)), (63, .p (eI (p_0.fOutputs.length : Int))), (64, .p (eI t67))] [(2, .ptr 2 0), (5, .p (eL eS l66)), (13, .ptr 13 0), (62, .p (eL eTOutputChange p_0.fOutputs)), (63, .p (eI (p_0.fOutputs.length : Int))), (64, .p (eI t67))] [(2, .ptr 2 0), (13, .ptr 13 0), (62, .p (eL eTOutputChange p_0.fOutputs)), (63, .p (eI (p_0.fOutputs.length : Int))), (64, .p (eI t67))]), (fun _ => [(2, [.p (eB p_0.fOptions.fDestroy), .p (eB p_0.fOptions.fRefresh), .p (eL eS p_0.fOptions.fTargets), .p (eL eS p_0.fOptions.fReplace), .p (eI p_0.fOptions.fRemote.fKind), .p (eI p_0.fOptions.fRemote.fNum), .p (eS p_0.fOptions.fRemote.fStr), .p (eL eTValue p_0.fOptions.fRemote.fItems), .p (eL eS p_0.fOptions.fRemote.fKeys), .p (eI p_0.fOptions.fVars.fKind), .p (eI p_0.fOptions.fVars.fNum), .p (eS p_0.fOptions.fVars.fStr), .p (eL eTValue p_0.fOptions.fVars.fItems), .p (eL eS p_0.fOptions.fVars.fKeys), .p (eS p_0.fBase.fLineage), .p (eI p_0.fBase.fSerial), .p (eL eTInstance p_0.fBase.fInstances), .p (eL eTPending p_0.fBase.fPending), .p (eL eTStateOutput p_0.fBase.fOutputs), .p (eL eTChange p_0.fChanges), .p (eL eTOutputChange p_0.fOutputs), .p (eL eTDataValue p_0.fData), .p (eL eTDrift p_0.fDrift), .p (eL eTMove p_0.fMoved)]), (13, [.p (eS ((lat p_0.fOutputs t67).fName)), .p (eI (((lat p_0.fOutputs t67).fBefore).fKind)), .p (eI (((lat p_0.fOutputs t67).fBefore).fNum)), .p (eS (((lat p_0.fOutputs t67).fBefore).fStr)), .p (eL eTValue (((lat p_0.fOutputs t67).fBefore).fItems)), .p (eL eS (((lat p_0.fOutputs t67).fBefore).fKeys)), .p (eI (((lat p_0.fOutputs t67).fAfter).fKind)), .p (eI (((lat p_0.fOutputs t67).fAfter).fNum)), .p (eS (((lat p_0.fOutputs t67).fAfter).fStr)), .p (eL eTValue (((lat p_0.fOutputs t67).fAfter).fItems)), .p (eL eS (((lat p_0.fOutputs t67).fAfter).fKeys)), .p (eB ((lat p_0.fOutputs t67).fSensitive))])])⟩ rfl rfl rfl ⟨rfl, rfl, rfl, rfl, rfl, rfl, trivial⟩ (lt2 ⟨rfl, rfl, rfl, rfl, rfl, rfl, trivial⟩ ⟨rfl, rfl, rfl, rfl, rfl, trivial⟩) rfl rfl rfl rfl ?_)
      refine ds_pure (by3 (.vec 93 1 0 (l66.map eS)) (.p (eL eS l66)) (.p (eL eS l66))) rfl rfl rfl (all3 rfl rfl (fun _ => rfl)) (lt2 rfl rfl) (stg_no rfl (stg_no rfl (stg_yes [(5, _)] ⟨.inl rfl, trivial⟩ (fun sl hsl K hK => one_op rfl (ok_move rfl rfl rfl (hsl _ _ rfl) hK)) stg_nil))) (ds_pure (fun _ => .ptr 13 0) rfl rfl rfl (all3 rfl rfl (fun _ => rfl)) (lt2 rfl rfl) (stg_no rfl (stg_yes [(13, _)] ⟨.inl rfl, trivial⟩ (fun sl hsl K hK => one_op rfl (ok_fieldAddrP rfl rfl rfl rfl rfl rfl rfl rfl (hsl _ _ rfl) hK)) (stg_yes [(13, _)] ⟨.inl rfl, trivial⟩ (fun sl hsl K hK => one_op rfl (ok_fieldAddrP rfl rfl rfl rfl rfl rfl rfl rfl (hsl _ _ rfl) hK)) stg_nil))) ?_)
      refine ds_pure (fun _ => .p (eS ((lat p_0.fOutputs t67).fName))) rfl rfl rfl (all3 rfl rfl (fun _ => rfl)) (lt2 rfl rfl) (stg_no rfl (stg_yes [(75, _)] ⟨.inr ⟨1, _, rfl, rfl, rfl⟩, trivial⟩ (fun sl hsl K hK => one_op rfl (ok_loadP1 rfl rfl rfl rfl rfl (hsl _ _ rfl) rfl rfl hK)) (stg_yes [(75, _)] ⟨.inr ⟨1, _, rfl, rfl, rfl⟩, trivial⟩ (fun sl hsl K hK => one_op rfl (ok_loadP1 rfl rfl rfl rfl rfl (hsl _ _ rfl) rfl rfl hK)) stg_nil))) (ds_pure (fun _ => .p (eS (([111, 117, 116, 112, 117, 116, 32] : Bytes) ++ ((lat p_0.fOutputs t67).fName)))) rfl rfl rfl (all3 rfl rfl (fun _ => rfl)) (lt2 rfl rfl) (stg_no rfl (stg_yes [(76, _)] ⟨.inr ⟨2, _, rfl, rfl, rfl⟩, trivial⟩ (fun sl hsl K hK => one_op rfl (ok_concat rfl rfl rfl rfl (hsl _ _ rfl) hk73 hK)) (stg_yes [(76, _)] ⟨.inr ⟨2, _, rfl, rfl, rfl⟩, trivial⟩ (fun sl hsl K hK => one_op rfl (ok_concat rfl rfl rfl rfl (hsl _ _ rfl) hk73 hK)) stg_nil))) ?_)
      refine ds_pure (fun _ => .p (eS ((([111, 117, 116, 112, 117, 116, 32] : Bytes) ++ ((lat p_0.fOutputs t67).fName)) ++ ([32, 61, 32] : Bytes)))) rfl rfl rfl (all3 rfl rfl (fun _ => rfl)) (lt2 rfl rfl) (stg_no rfl (stg_yes [(77, _)] ⟨.inr ⟨3, _, rfl, rfl, rfl⟩, trivial⟩ (fun sl hsl K hK => one_op rfl (ok_concat rfl rfl rfl (hsl _ _ rfl) rfl hk74 hK)) (stg_yes [(77, _)] ⟨.inr ⟨3, _, rfl, rfl, rfl⟩, trivial⟩ (fun sl hsl K hK => one_op rfl (ok_concat rfl rfl rfl (hsl _ _ rfl) rfl hk74 hK)) stg_nil))) (ds_pure (fun _ => .ptr 13 1) rfl rfl rfl (all3 rfl rfl (fun _ => rfl)) (lt2 rfl rfl) (stg_no rfl (stg_yes [(13, _)] ⟨.inl rfl, trivial⟩ (fun sl hsl K hK => one_op rfl (ok_fieldAddrP rfl rfl rfl rfl rfl rfl rfl rfl (hsl _ _ rfl) hK)) (stg_yes [(13, _)] ⟨.inl rfl, trivial⟩ (fun sl hsl K hK => one_op rfl (ok_fieldAddrP rfl rfl rfl rfl rfl rfl rfl rfl (hsl _ _ rfl) hK)) stg_nil))) ?_)
      refine ds_pure (fun _ => .p (.agg (TValue.cs ((lat p_0.fOutputs t67).fBefore)))) rfl rfl rfl (all3 rfl rfl (fun _ => rfl)) (lt2 rfl rfl) (stg_no rfl (stg_yes [(79, _)] ⟨.inr ⟨5, _, rfl, rfl, rfl⟩, trivial⟩ (fun sl hsl K hK => one_op rfl (ok_loadPA rfl rfl rfl rfl rfl (hsl _ _ rfl) rfl rfl rfl hK)) (stg_yes [(79, _)] ⟨.inr ⟨5, _, rfl, rfl, rfl⟩, trivial⟩ (fun sl hsl K hK => one_op rfl (ok_loadPA rfl rfl rfl rfl rfl (hsl _ _ rfl) rfl rfl rfl hK)) stg_nil))) (ds_pure (fun _ => .ptr 13 11) rfl rfl rfl (all3 rfl rfl (fun _ => rfl)) (lt2 rfl rfl) (stg_no rfl (stg_yes [(13, _)] ⟨.inl rfl, trivial⟩ (fun sl hsl K hK => one_op rfl (ok_fieldAddrP rfl rfl rfl rfl rfl rfl rfl rfl (hsl _ _ rfl) hK)) (stg_yes [(13, _)] ⟨.inl rfl, trivial⟩ (fun sl hsl K hK => one_op rfl (ok_fieldAddrP rfl rfl rfl rfl rfl rfl rfl rfl (hsl _ _ rfl) hK)) stg_nil))) ?_)
      refine ds_pure (fun _ => .p (eB ((lat p_0.fOutputs t67).fSensitive))) rfl rfl rfl (all3 rfl rfl (fun _ => rfl)) (lt2 rfl rfl) (stg_no rfl (stg_yes [(81, _)] ⟨.inr ⟨7, _, rfl, rfl, rfl⟩, trivial⟩ (fun sl hsl K hK => one_op rfl (ok_loadP1 rfl rfl rfl rfl rfl (hsl _ _ rfl) rfl rfl hK)) (stg_yes [(81, _)] ⟨.inr ⟨7, _, rfl, rfl, rfl⟩, trivial⟩ (fun sl hsl K hK => one_op rfl (ok_loadP1 rfl rfl rfl rfl rfl (hsl _ _ rfl) rfl rfl hK)) stg_nil))) (ds_pure (fun _ => .p (eS r75)) rfl rfl rfl (all3 rfl rfl (fun _ => rfl)) (lt2 rfl rfl) (stg_no rfl (stg_yes [(80, _), (82, _)] ⟨.inr ⟨6, _, rfl, rfl, rfl⟩, .inr ⟨8, _, rfl, rfl, rfl⟩, trivial⟩ (fun sl hsl K hK => one_op rfl (ok_callP (explain_secret_ok _ ((lat p_0.fOutputs t67).fBefore) ((lat p_0.fOutputs t67).fSensitive) _ e76) rfl rfl rfl (args_cons (hsl _ _ rfl) (args_cons (hsl _ _ rfl) args_nil)) ⟨sr, sr, trivial⟩ Tryz.call42 rfl hK)) (stg_yes [(80, _), (82, _)] ⟨.inr ⟨6, _, rfl, rfl, rfl⟩, .inr ⟨8, _, rfl, rfl, rfl⟩, trivial⟩ (fun sl hsl K hK => one_op rfl (ok_callP (explain_secret_ok _ ((lat p_0.fOutputs t67).fBefore) ((lat p_0.fOutputs t67).fSensitive) _ e76) rfl rfl rfl (args_cons (hsl _ _ rfl) (args_cons (hsl _ _ rfl) args_nil)) ⟨sr, sr, trivial⟩ Tryz.call42 rfl hK)) stg_nil))) ?_)
      refine ds_pure (fun _ => .p (eS (((([111, 117, 116, 112, 117, 116, 32] : Bytes) ++ ((lat p_0.fOutputs t67).fName)) ++ ([32, 61, 32] : Bytes)) ++ r75))) rfl rfl rfl (all3 rfl rfl (fun _ => rfl)) (lt2 rfl rfl) (stg_no rfl (stg_yes [(78, _), (83, _)] ⟨.inr ⟨4, _, rfl, rfl, rfl⟩, .inr ⟨9, _, rfl, rfl, rfl⟩, trivial⟩ (fun sl hsl K hK => one_op rfl (ok_concat rfl rfl rfl (hsl _ _ rfl) (hsl _ _ rfl) hk77 hK)) (stg_yes [(78, _), (83, _)] ⟨.inr ⟨4, _, rfl, rfl, rfl⟩, .inr ⟨9, _, rfl, rfl, rfl⟩, trivial⟩ (fun sl hsl K hK => one_op rfl (ok_concat rfl rfl rfl (hsl _ _ rfl) (hsl _ _ rfl) hk77 hK)) stg_nil))) (ds_pure (fun _ => .p (eS ((((([111, 117, 116, 112, 117, 116, 32] : Bytes) ++ ((lat p_0.fOutputs t67).fName)) ++ ([32, 61, 32] : Bytes)) ++ r75) ++ ([32, 45, 62, 32] : Bytes)))) rfl rfl rfl (all3 rfl rfl (fun _ => rfl)) (lt2 rfl rfl) (stg_no rfl (stg_yes [(84, _)] ⟨.inr ⟨10, _, rfl, rfl, rfl⟩, trivial⟩ (fun sl hsl K hK => one_op rfl (ok_concat rfl rfl rfl (hsl _ _ rfl) rfl hk78 hK)) (stg_yes [(84, _)] ⟨.inr ⟨10, _, rfl, rfl, rfl⟩, trivial⟩ (fun sl hsl K hK => one_op rfl (ok_concat rfl rfl rfl (hsl _ _ rfl) rfl hk78 hK)) stg_nil))) ?_)
      refine ds_pure (fun _ => .ptr 13 6) rfl rfl rfl (all3 rfl rfl (fun _ => rfl)) (lt2 rfl rfl) (stg_no rfl (stg_yes [(13, _)] ⟨.inl rfl, trivial⟩ (fun sl hsl K hK => one_op rfl (ok_fieldAddrP rfl rfl rfl rfl rfl rfl rfl rfl (hsl _ _ rfl) hK)) (stg_yes [(13, _)] ⟨.inl rfl, trivial⟩ (fun sl hsl K hK => one_op rfl (ok_fieldAddrP rfl rfl rfl rfl rfl rfl rfl rfl (hsl _ _ rfl) hK)) stg_nil))) (ds_pure (fun _ => .p (.agg (TValue.cs ((lat p_0.fOutputs t67).fAfter)))) rfl rfl rfl (all3 rfl rfl (fun _ => rfl)) (lt2 rfl rfl) (stg_no rfl (stg_yes [(86, _)] ⟨.inr ⟨12, _, rfl, rfl, rfl⟩, trivial⟩ (fun sl hsl K hK => one_op rfl (ok_loadPA rfl rfl rfl rfl rfl (hsl _ _ rfl) rfl rfl rfl hK)) (stg_yes [(86, _)] ⟨.inr ⟨12, _, rfl, rfl, rfl⟩, trivial⟩ (fun sl hsl K hK => one_op rfl (ok_loadPA rfl rfl rfl rfl rfl (hsl _ _ rfl) rfl rfl rfl hK)) stg_nil))) ?_)
      refine ds_pure (fun _ => .ptr 13 11) rfl rfl rfl (all3 rfl rfl (fun _ => rfl)) (lt2 rfl rfl) (stg_no rfl (stg_yes [(13, _)] ⟨.inl rfl, trivial⟩ (fun sl hsl K hK => one_op rfl (ok_fieldAddrP rfl rfl rfl rfl rfl rfl rfl rfl (hsl _ _ rfl) hK)) (stg_yes [(13, _)] ⟨.inl rfl, trivial⟩ (fun sl hsl K hK => one_op rfl (ok_fieldAddrP rfl rfl rfl rfl rfl rfl rfl rfl (hsl _ _ rfl) hK)) stg_nil))) (ds_pure (fun _ => .p (eB ((lat p_0.fOutputs t67).fSensitive))) rfl rfl rfl (all3 rfl rfl (fun _ => rfl)) (lt2 rfl rfl) (stg_no rfl (stg_yes [(88, _)] ⟨.inr ⟨14, _, rfl, rfl, rfl⟩, trivial⟩ (fun sl hsl K hK => one_op rfl (ok_loadP1 rfl rfl rfl rfl rfl (hsl _ _ rfl) rfl rfl hK)) (stg_yes [(88, _)] ⟨.inr ⟨14, _, rfl, rfl, rfl⟩, trivial⟩ (fun sl hsl K hK => one_op rfl (ok_loadP1 rfl rfl rfl rfl rfl (hsl _ _ rfl) rfl rfl hK)) stg_nil))) ?_)
      refine ds_pure (fun _ => .p (eS r79)) rfl rfl rfl (all3 rfl rfl (fun _ => rfl)) (lt2 rfl rfl) (stg_no rfl (stg_no rfl (stg_yes [(87, _), (89, _)] ⟨.inr ⟨13, _, rfl, rfl, rfl⟩, .inr ⟨15, _, rfl, rfl, rfl⟩, trivial⟩ (fun sl hsl K hK => one_op rfl (ok_callP (explain_secret_ok _ ((lat p_0.fOutputs t67).fAfter) ((lat p_0.fOutputs t67).fSensitive) _ e80) rfl rfl rfl (args_cons (hsl _ _ rfl) (args_cons (hsl _ _ rfl) args_nil)) ⟨sr, sr, trivial⟩ Tryz.call42 rfl hK)) stg_nil))) (ds_pure (fun _ => .p (eS (((((([111, 117, 116, 112, 117, 116, 32] : Bytes) ++ ((lat p_0.fOutputs t67).fName)) ++ ([32, 61, 32] : Bytes)) ++ r75) ++ ([32, 45, 62, 32] : Bytes)) ++ r79))) rfl rfl rfl (all3 rfl rfl (fun _ => rfl)) (lt2 rfl rfl) (stg_no rfl (stg_yes [(85, _), (90, _)] ⟨.inr ⟨11, _, rfl, rfl, rfl⟩, .inr ⟨16, _, rfl, rfl, rfl⟩, trivial⟩ (fun sl hsl K hK => one_op rfl (ok_concat rfl rfl rfl (hsl _ _ rfl) (hsl _ _ rfl) hk81 hK)) (stg_yes [(85, _), (90, _)] ⟨.inr ⟨11, _, rfl, rfl, rfl⟩, .inr ⟨16, _, rfl, rfl, rfl⟩, trivial⟩ (fun sl hsl K hK => one_op rfl (ok_concat rfl rfl rfl (hsl _ _ rfl) (hsl _ _ rfl) hk81 hK)) stg_nil))) ?_)
      refine ds_pure (fun _ => .p (eL eS ([((((([111, 117, 116, 112, 117, 116, 32] : Bytes) ++ ((lat p_0.fOutputs t67).fName)) ++ ([32, 61, 32] : Bytes)) ++ r75) ++ ([32, 45, 62, 32] : Bytes)) ++ r79]))) rfl rfl rfl (all3 rfl rfl (fun _ => rfl)) (lt2 rfl rfl) (stg_no rfl (stg_no rfl (stg_yes [(91, _)] ⟨.inr ⟨17, _, rfl, rfl, rfl⟩, trivial⟩ (fun sl hsl K hK => one_op rfl (op_bslice eS [((((([111, 117, 116, 112, 117, 116, 32] : Bytes) ++ ((lat p_0.fOutputs t67).fName)) ++ ([32, 61, 32] : Bytes)) ++ r75) ++ ([32, 45, 62, 32] : Bytes)) ++ r79] rfl rfl rfl rfl rfl rfl (elems_cons (hsl _ _ rfl) rfl elems_nil) rfl rfl rfl rfl rfl rfl rfl hK)) stg_nil))) (ds_imp (fun _ => .vec 93 1 0 ((l66 ++ ([((((([111, 117, 116, 112, 117, 116, 32] : Bytes) ++ ((lat p_0.fOutputs t67).fName)) ++ ([32, 61, 32] : Bytes)) ++ r75) ++ ([32, 45, 62, 32] : Bytes)) ++ r79])).map eS)) [(74, _), (92, _)] rfl ⟨.inr ⟨0, _, rfl, rfl, rfl⟩, .inr ⟨18, _, rfl, rfl, rfl⟩, trivial⟩ rfl rfl (all2 rfl (fun _ => rfl)) (lt2 (fun h => absurd h (by decide)) (fun _ => rfl)) (fun sl hsl K hK => one_op rfl (op_appV eS l66 ([((((([111, 117, 116, 112, 117, 116, 32] : Bytes) ++ ((lat p_0.fOutputs t67).fName)) ++ ([32, 61, 32] : Bytes)) ++ r75) ++ ([32, 45, 62, 32] : Bytes)) ++ r79]) rfl rfl rfl rfl rfl rfl rfl rfl (hsl _ _ rfl) rfl rfl (hsl _ _ rfl) rfl (fun _ => rfl) rfl rfl rfl rfl hk82 hK)) ?_)
      refine ds_imp (fun _ => .vec 93 1 0 ((l66 ++ ([((((([111, 117, 116, 112, 117, 116, 32] : Bytes) ++ ((lat p_0.fOutputs t67).fName)) ++ ([32, 61, 32] : Bytes)) ++ r75) ++ ([32, 45, 62, 32] : Bytes)) ++ r79])).map eS)) [(93, _)] rfl ⟨.inr ⟨19, _, rfl, rfl, rfl⟩, trivial⟩ rfl rfl (fun _ => rfl) (lt2 (fun h => absurd h (by decide)) (fun h => absurd h (by decide))) (fun sl hsl K hK => one_op rfl (ok_assign rfl rfl rfl (hsl _ _ rfl) hK)) (ds_nil ?_)
      exact nx 1 rfl (eX _ (oi h2).symm (gE rfl rfl))
     exact nx 2 rfl (eX _ (oi h2).symm (gE rfl rfl))
    exact nx 2 rfl (eXi _ (oi h1).symm (gE rfl rfl))
   refine lG (fun (q110 : (List Bytes) × Int) => ⟨[(1, .p (eL eTResourceType types_1)), (2, .ptr 2 0), (5, .vec 59 1 0 (q110.1.map eS)), (46, .p (eL eTChange p_0.fChanges)), (47, .p (eI (p_0.fChanges.length : Int))), (48, .p (eI q110.2))], [(2, (TPlan.cs p_0).map .p)]⟩) (fun m (q110 : (List Bytes) × Int) => explain_Plan_l3 n p_0 types_1 m q110.1 q110.2) (fun _ => rfl) (o101, 0) h1 (ghost_trans (ghost_ren 43 59 rfl rfl rfl rfl rfl) (gE rfl rfl)) ?_
   rintro m ⟨l34, t35⟩ h1
   replace h1 : explain_Plan_l3 n p_0 types_1 (m + 1) l34 t35 = some o103 := h1
   rw [explain_Plan_l3] at h1
   refine nx 5 rfl (fD [49] h1 rfl (fun c36 h1 => ?_) fun c36 h1 => ?_)
   ·refine nx 6 rfl (oE h1 TChange.cells_eq rfl rfl (fun _ => rfl) fun hk37 h1 => ?_)
    refine nx 4 rfl (bd h1 fun r38 e39 h1 => ?_)
    refine bd h1 fun r40 e41 h1 => cc' h1 fun hk42 h1 => mG (gE (t := ⟨[(1, .p (eL eTResourceType types_1)), (2, .ptr 2 0), (5, .vec 59 1 0 (l34.map eS)), (11, .ptr 11 0), (46, .p (eL eTChange p_0.fChanges)), (47, .p (eI (p_0.fChanges.length : Int))), (48, .p (eI t35))], [(2, (TPlan.cs p_0).map .p), (11, (TChange.cs (lat p_0.fChanges t35)).map .p)]⟩) rfl rfl) (mS ⟨2, [7, 8], (by3 (.some fun i => Nat.beq i 59 || Nat.beq i 59) .none .none), (by3 [(1, .p (eL eTResourceType types_1)), (2, .ptr 2 0), (5, .vec 59 1 0 (l34.map eS)), (11, .ptr 11 0), (46, .p (eL eTChange p_0.fChanges)), (47, .p (eI (p_0.fChanges.length : Int))), (48, .p (eI t35))] [(1, .p (eL eTResourceType types_1)), (2, .ptr 2 0), (5, .p (eL eS l34)), (11, .ptr 11 0), (46, .p (eL eTChange p_0.fChanges)), (47, .p (eI (p_0.fChanges.length : Int))), (48, .p (eI t35))] [(1, .p (eL eTResourceType types_1)), (2, .ptr 2 0), (11, .ptr 11 0), (46, .p (eL eTChange p_0.fChanges)), (47, .p (eI (p_0.fChanges.length : Int))), (48, .p (eI t35))]), (fun _ => [(2, [.p (eB p_0.fOptions.fDestroy), .p (eB p_0.fOptions.fRefresh), .p (eL eS p_0.fOptions.fTargets), .p (eL eS p_0.fOptions.fReplace), .p (eI p_0.fOptions.fRemote.fKind), .p (eI p_0.fOptions.fRemote.fNum), .p (eS p_0.fOptions.fRemote.fStr), .p (eL eTValue p_0.fOptions.fRemote.fItems), .p (eL eS p_0.fOptions.fRemote.fKeys), .p (eI p_0.fOptions.fVars.fKind), .p (eI p_0.fOptions.fVars.fNum), .p (eS p_0.fOptions.fVars.fStr), .p (eL eTValue p_0.fOptions.fVars.fItems), .p (eL eS p_0.fOptions.fVars.fKeys), .p (eS p_0.fBase.fLineage), .p (eI p_0.fBase.fSerial), .p (eL eTInstance p_0.fBase.fInstances), .p (eL eTPending p_0.fBase.fPending), .p (eL eTStateOutput p_0.fBase.fOutputs), .p (eL eTChange p_0.fChanges), .p (eL eTOutputChange p_0.fOutputs), .p (eL eTDataValue p_0.fData), .p (eL eTDrift p_0.fDrift), .p (eL eTMove p_0.fMoved)]), (11, [.p (eS ((lat p_0.fChanges t35).fAddr)), .p (eS ((lat p_0.fChanges t35).fDeposed)), .p (eS ((lat p_0.fChanges t35).fType)), .p (eI ((lat p_0.fChanges t35).fAction)), .p (eI ((lat p_0.fChanges t35).fReason)), .p (eI (((lat p_0.fChanges t35).fBefore).fKind)), .p (eI (((lat p_0.fChanges t35).fBefore).fNum)), .p (eS (((lat p_0.fChanges t35).fBefore).fStr)), .p (eL eTValue (((lat p_0.fChanges t35).fBefore).fItems)), .p (eL eS (((lat p_0.fChanges t35).fBefore).fKeys)), .p (eI (((lat p_0.fChanges t35).fAfter).fKind)), .p (eI (((lat p_0.fChanges t35).fAfter).fNum)), .p (eS (((lat p_0.fChanges t35).fAfter).fStr)), .p (eL eTValue (((lat p_0.fChanges t35).fAfter).fItems)), .p (eL eS (((lat p_0.fChanges t35).fAfter).fKeys)), .p (eS ((lat p_0.fChanges t35).fID)), .p (eL eS ((lat p_0.fChanges t35).fReplace)), .p (eB ((lat p_0.fChanges t35).fCreateFirst)), .p (eB ((lat p_0.fChanges t35).fProtect)), .p (eB ((lat p_0.fChanges t35).fImport)), .p (eL eS ((lat p_0.fChanges t35).fDeps)), .p (eL eS ((lat p_0.fChanges t35).fOldDeps))])])⟩ rfl rfl rfl ⟨rfl, rfl, rfl, rfl, rfl, rfl, rfl, trivial⟩ (lt2 ⟨rfl, rfl, rfl, rfl, rfl, rfl, rfl, trivial⟩ ⟨rfl, rfl, rfl, rfl, rfl, rfl, trivial⟩) rfl rfl rfl rfl ?_)
    refine ds_pure (by3 (.vec 59 1 0 (l34.map eS)) (.p (eL eS l34)) (.p (eL eS l34))) rfl rfl rfl (all3 rfl rfl (fun _ => rfl)) (lt2 rfl rfl) (stg_no rfl (stg_no rfl (stg_yes [(5, _)] ⟨.inl rfl, trivial⟩ (fun sl hsl K hK => one_op rfl (ok_move rfl rfl rfl (hsl _ _ rfl) hK)) stg_nil))) (ds_pure (fun _ => .p (.agg (TChange.cs (lat p_0.fChanges t35)))) rfl rfl rfl (all3 rfl rfl (fun _ => rfl)) (lt2 rfl rfl) (stg_no rfl (stg_yes [(11, _)] ⟨.inl rfl, trivial⟩ (fun sl hsl K hK => one_op rfl (ok_loadPA rfl rfl rfl rfl rfl (hsl _ _ rfl) rfl rfl rfl hK)) (stg_yes [(11, _)] ⟨.inl rfl, trivial⟩ (fun sl hsl K hK => one_op rfl (ok_loadPA rfl rfl rfl rfl rfl (hsl _ _ rfl) rfl rfl rfl hK)) stg_nil))) ?_)
    refine ds_pure (fun _ => .p (eL eTResourceType types_1)) rfl rfl rfl (all3 rfl rfl (fun _ => rfl)) (lt2 rfl rfl) (stg_no rfl (stg_yes [(1, _)] ⟨.inl rfl, trivial⟩ (fun sl hsl K hK => one_op rfl (ok_move rfl rfl rfl (hsl _ _ rfl) hK)) (stg_yes [(1, _)] ⟨.inl rfl, trivial⟩ (fun sl hsl K hK => one_op rfl (ok_move rfl rfl rfl (hsl _ _ rfl) hK)) stg_nil))) (ds_pure (fun _ => .ptr 11 2) rfl rfl rfl (all3 rfl rfl (fun _ => rfl)) (lt2 rfl rfl) (stg_no rfl (stg_yes [(11, _)] ⟨.inl rfl, trivial⟩ (fun sl hsl K hK => one_op rfl (ok_fieldAddrP rfl rfl rfl rfl rfl rfl rfl rfl (hsl _ _ rfl) hK)) (stg_yes [(11, _)] ⟨.inl rfl, trivial⟩ (fun sl hsl K hK => one_op rfl (ok_fieldAddrP rfl rfl rfl rfl rfl rfl rfl rfl (hsl _ _ rfl) hK)) stg_nil))) ?_)
    refine ds_pure (fun _ => .p (eS ((lat p_0.fChanges t35).fType))) rfl rfl rfl (all3 rfl rfl (fun _ => rfl)) (lt2 rfl rfl) (stg_no rfl (stg_yes [(55, _)] ⟨.inr ⟨3, _, rfl, rfl, rfl⟩, trivial⟩ (fun sl hsl K hK => one_op rfl (ok_loadP1 rfl rfl rfl rfl rfl (hsl _ _ rfl) rfl rfl hK)) (stg_yes [(55, _)] ⟨.inr ⟨3, _, rfl, rfl, rfl⟩, trivial⟩ (fun sl hsl K hK => one_op rfl (ok_loadP1 rfl rfl rfl rfl rfl (hsl _ _ rfl) rfl rfl hK)) stg_nil))) (ds_pure (fun _ => .p (.agg (TSchema.cs r38))) rfl rfl rfl (all3 rfl rfl (fun _ => rfl)) (lt2 rfl rfl) (stg_no rfl (stg_yes [(54, _), (56, _)] ⟨.inr ⟨2, _, rfl, rfl, rfl⟩, .inr ⟨4, _, rfl, rfl, rfl⟩, trivial⟩ (fun sl hsl K hK => one_op rfl (ok_callP (explain_typed_ok _ types_1 ((lat p_0.fChanges t35).fType) _ e39) rfl rfl rfl (args_cons (hsl _ _ rfl) (args_cons (hsl _ _ rfl) args_nil)) ⟨sr, sr, trivial⟩ Tryz.call40 rfl hK)) (stg_yes [(54, _), (56, _)] ⟨.inr ⟨2, _, rfl, rfl, rfl⟩, .inr ⟨4, _, rfl, rfl, rfl⟩, trivial⟩ (fun sl hsl K hK => one_op rfl (ok_callP (explain_typed_ok _ types_1 ((lat p_0.fChanges t35).fType) _ e39) rfl rfl rfl (args_cons (hsl _ _ rfl) (args_cons (hsl _ _ rfl) args_nil)) ⟨sr, sr, trivial⟩ Tryz.call40 rfl hK)) stg_nil))) ?_)
    refine ds_pure (fun _ => .p (eL eS r40)) rfl rfl rfl (all3 rfl rfl (fun _ => rfl)) (lt2 rfl rfl) (stg_no rfl (stg_no rfl (stg_yes [(53, _), (57, _)] ⟨.inr ⟨1, _, rfl, rfl, rfl⟩, .inr ⟨5, _, rfl, rfl, rfl⟩, trivial⟩ (fun sl hsl K hK => one_op rfl (ok_callP (explain_Change_ok _ (lat p_0.fChanges t35) r38 _ e41) rfl rfl rfl (args_cons (hsl _ _ rfl) (args_cons (hsl _ _ rfl) args_nil)) ⟨sr, sr, trivial⟩ Tryz.call13 rfl hK)) stg_nil))) (ds_imp (fun _ => .vec 59 1 0 ((l34 ++ r40).map eS)) [(52, _), (58, _)] rfl ⟨.inr ⟨0, _, rfl, rfl, rfl⟩, .inr ⟨6, _, rfl, rfl, rfl⟩, trivial⟩ rfl rfl (all2 rfl (fun _ => rfl)) (lt2 (fun h => absurd h (by decide)) (fun _ => rfl)) (fun sl hsl K hK => one_op rfl (op_appV eS l34 r40 rfl rfl rfl rfl rfl rfl rfl rfl (hsl _ _ rfl) rfl rfl (hsl _ _ rfl) rfl (fun _ => rfl) rfl rfl rfl rfl hk42 hK)) ?_)
    refine ds_imp (fun _ => .vec 59 1 0 ((l34 ++ r40).map eS)) [(59, _)] rfl ⟨.inr ⟨7, _, rfl, rfl, rfl⟩, trivial⟩ rfl rfl (fun _ => rfl) (lt2 (fun h => absurd h (by decide)) (fun h => absurd h (by decide))) (fun sl hsl K hK => one_op rfl (ok_assign rfl rfl rfl (hsl _ _ rfl) hK)) (ds_nil ?_)
    refine nx 2 rfl (oA h1 rfl rfl fun hk43 h1 => ?_)
    exact nx 2 rfl (eX (l34 ++ r40, t35 + 1) h1 (gE rfl rfl))
   exact nx 2 rfl (eXi _ (oi h1).symm (gE rfl rfl))
  refine lG (fun (q111 : (List Bytes) × Int) => ⟨[(1, .p (eL eTResourceType types_1)), (2, .ptr 2 0), (5, .vec 43 1 0 (q111.1.map eS)), (28, .p (eL eTMove p_0.fMoved)), (29, .p (eI (p_0.fMoved.length : Int))), (30, .p (eI q111.2))], [(2, (TPlan.cs p_0).map .p)]⟩) (fun m (q111 : (List Bytes) × Int) => explain_Plan_l2 p_0 m q111.1 q111.2) (fun _ => rfl) ([], 0) h1 (ghost_le (le_mk ⟨er rfl, er rfl, ⟨_, rfl, AV.sub_nilvec _ _ _⟩, er rfl, er rfl, er rfl, trivial⟩ ⟨⟨_, rfl, ⟨sr, sr, sr, sr, sr, sr, sr, sr, sr, sr, sr, sr, sr, sr, sr, sr, sr, sr, sr, sr, sr, sr, sr, sr, trivial⟩⟩, trivial⟩)) ?_
  rintro m ⟨l12, t13⟩ h1
  replace h1 : explain_Plan_l2 p_0 (m + 1) l12 t13 = some o101 := h1
  rw [explain_Plan_l2] at h1
  refine nx 5 rfl (fD [31] h1 rfl (fun c14 h1 => ?_) fun c14 h1 => ?_)
  ·refine nx 6 rfl (oE h1 TMove.cells_eq rfl rfl (fun _ => rfl) fun hk15 h1 => ?_)
   refine nx 8 rfl (oC h1 rfl fun hk16 h1 => ?_)
   refine oC h1 rfl fun hk17 h1 => nx 2 rfl (oC h1 rfl fun hk18 h1 => ?_)
   refine mO rfl (op_bslice eS [((([62, 32] : Bytes) ++ ((lat p_0.fMoved t13).fFrom)) ++ ([32, 45, 62, 32] : Bytes)) ++ ((lat p_0.fMoved t13).fTo)] rfl rfl rfl rfl rfl rfl rfl rfl rfl rfl rfl rfl rfl rfl ?_)
   refine cc' h1 fun hk19 h1 => mO rfl (op_appV eS l12 ([((([62, 32] : Bytes) ++ ((lat p_0.fMoved t13).fFrom)) ++ ([32, 45, 62, 32] : Bytes)) ++ ((lat p_0.fMoved t13).fTo)]) rfl rfl rfl rfl rfl rfl rfl rfl rfl rfl rfl rfl rfl (fun _ => rfl) rfl rfl rfl rfl hk19 ?_)
   refine nx 3 rfl (oA h1 rfl rfl fun hk20 h1 => ?_)
   exact nx 2 rfl (eX (l12 ++ ([((([62, 32] : Bytes) ++ ((lat p_0.fMoved t13).fFrom)) ++ ([32, 45, 62, 32] : Bytes)) ++ ((lat p_0.fMoved t13).fTo)]), t13 + 1) h1 (gE rfl rfl))
  exact nx 2 rfl (eXi _ (oi h1).symm (gE rfl rfl))
 refine lG (fun (q112 : Unit) => ⟨[(1, .p (eL eTResourceType types_1)), (2, .ptr 2 0), (5, .p (.val (.slice none 0 0))), (15, .p (eL eTDrift p_0.fDrift)), (16, .p (eI (p_0.fDrift.length : Int))), (17, .p (eI 0))], [(2, (TPlan.cs p_0).map .p)]⟩) (fun m (q112 : Unit) => explain_Plan_l1 p_0 m ) (fun _ => rfl) () h1 (gE rfl rfl) ?_
 rintro m _ h1
 replace h1 : explain_Plan_l1 p_0 (m + 1)  = some o99 := h1
 rw [explain_Plan_l1] at h1
 refine nx 5 rfl (fD [18] h1 rfl (fun c1 h1 => ?_) fun c1 h1 => ?_)
 ·refine nx 6 rfl (oE h1 TDrift.cells_eq rfl rfl (fun _ => rfl) fun hk2 h1 => ?_)
  refine nx 8 rfl ?_
  cases h1
 exact nx 2 rfl (eXi _ (oi h1).symm (gE rfl rfl))

def law46_word (s_0 : Bytes) : Option TValue :=
 some (TValue.mk 3 0 s_0 [] [])

set_option maxHeartbeats 4000000 in
theorem law46_word_ok (s_0 : Bytes) (r : TValue) (h0 : law46_word s_0 = some r) : PCalls Tryz.prog 22 [eS s_0] (· = .p (.agg (TValue.cs r))) := by
 unfold law46_word at h0
 refine pbodyA good Tryz.func22 rfl rfl rfl fun w0 => mP (fun v : TValue => .p (.agg (TValue.cs v))) ?_
 exact nx 11 rfl (mQ (oi h0) rfl (sub_cells ⟨.inl rfl, .inl rfl, .inl rfl, .inr ⟨rfl, rfl⟩, .inr ⟨rfl, rfl⟩, trivial⟩))

def law46_net (id_0 : TValue) (name_1 : Bytes) (size_2 : TValue) : Option TValue :=
 (law46_word name_1).bind fun r1 =>
 (law46_word ([115, 51] : Bytes)).bind fun r3 =>
 some (TValue.mk 5 0 ([] : Bytes) [id_0, r1, r3, size_2] ([([105, 100] : Bytes), ([110, 97, 109, 101] : Bytes), ([115, 101, 99, 114, 101, 116] : Bytes), ([115, 105, 122, 101] : Bytes)]))

set_option maxHeartbeats 4000000 in
theorem law46_net_ok (id_0 : TValue) (name_1 : Bytes) (size_2 : TValue) (r : TValue) (h0 : law46_net id_0 name_1 size_2 = some r) : PCalls Tryz.prog 20 [.agg (TValue.cs id_0), eS name_1, .agg (TValue.cs size_2)] (· = .p (.agg (TValue.cs r))) := by
 unfold law46_net at h0
 refine pbodyA good Tryz.func20 rfl rfl rfl fun w0 => mP (fun v : TValue => .p (.agg (TValue.cs v))) ?_
 refine nx 7 rfl (bd h0 fun r1 e2 h0 => ?_)
 refine bd h0 fun r3 e4 h0 => mG (gE (t := ⟨[(1, .p (eS name_1)), (3, .ptr 3 0), (5, .ptr 5 0), (6, .ptr 6 0)], [(3, (TValue.cs id_0).map .p), (5, (TValue.cs size_2).map .p), (6, [.p (eI 0), .p (eI 0), .p (eS ([] : Bytes)), .p (.val (.slice none 0 0)), .p (.val (.slice none 0 0))])]⟩) rfl rfl) (mS ⟨1, [8], (fun _ => .none), (fun _ => [(1, .p (eS name_1)), (3, .ptr 3 0), (5, .ptr 5 0), (6, .ptr 6 0)]), (by2 ([(3, [.p (eI id_0.fKind), .p (eI id_0.fNum), .p (eS id_0.fStr), .p (eL eTValue id_0.fItems), .p (eL eS id_0.fKeys)]), (5, [.p (eI size_2.fKind), .p (eI size_2.fNum), .p (eS size_2.fStr), .p (eL eTValue size_2.fItems), .p (eL eS size_2.fKeys)]), (6, [.p (eI 0), .p (eI 0), .p (eS ([] : Bytes)), .p (.val (.slice none 0 0)), .p (.val (.slice none 0 0))])]) ([(6, [.p (eI 5), .p (eI 0), .p (eS ([] : Bytes)), .p (eL eTValue [id_0, r1, r3, size_2]), .p (eL eS ([([105, 100] : Bytes), ([110, 97, 109, 101] : Bytes), ([115, 101, 99, 114, 101, 116] : Bytes), ([115, 105, 122, 101] : Bytes)]))]), (3, [.p (eI id_0.fKind), .p (eI id_0.fNum), .p (eS id_0.fStr), .p (eL eTValue id_0.fItems), .p (eL eS id_0.fKeys)]), (5, [.p (eI size_2.fKind), .p (eI size_2.fNum), .p (eS size_2.fStr), .p (eL eTValue size_2.fItems), .p (eL eS size_2.fKeys)]), (6, [.p (eI 0), .p (eI 0), .p (eS ([] : Bytes)), .p (.val (.slice none 0 0)), .p (.val (.slice none 0 0))])]))⟩ rfl rfl rfl ⟨rfl, rfl, rfl, rfl, trivial⟩ (lt1 ⟨rfl, rfl, rfl, rfl, trivial⟩) rfl rfl rfl rfl ?_)
 refine ds_pure (fun _ => .p (eL eS ([([105, 100] : Bytes), ([110, 97, 109, 101] : Bytes), ([115, 101, 99, 114, 101, 116] : Bytes), ([115, 105, 122, 101] : Bytes)]))) rfl rfl rfl (all2 rfl (fun _ => rfl)) (lt1 rfl) (stg_no rfl (stg_yes [] trivial (fun sl hsl K hK => one_op rfl (op_bslice eS [([105, 100] : Bytes), ([110, 97, 109, 101] : Bytes), ([115, 101, 99, 114, 101, 116] : Bytes), ([115, 105, 122, 101] : Bytes)] rfl rfl rfl rfl rfl rfl (elems_cons rfl rfl (elems_cons rfl rfl (elems_cons rfl rfl (elems_cons rfl rfl elems_nil)))) rfl rfl rfl rfl rfl rfl rfl hK)) stg_nil)) (ds_pure (fun _ => .p (.agg (TValue.cs id_0))) rfl rfl rfl (all2 rfl (fun _ => rfl)) (lt1 rfl) (stg_no rfl (stg_yes [(3, _)] ⟨.inl rfl, trivial⟩ (fun sl hsl K hK => one_op rfl (ok_loadPA rfl rfl rfl rfl rfl (hsl _ _ rfl) rfl rfl rfl hK)) stg_nil)) ?_)
 refine ds_pure (fun _ => .p (eS name_1)) rfl rfl rfl (all2 rfl (fun _ => rfl)) (lt1 rfl) (stg_no rfl (stg_yes [(1, _)] ⟨.inl rfl, trivial⟩ (fun sl hsl K hK => one_op rfl (ok_move rfl rfl rfl (hsl _ _ rfl) hK)) stg_nil)) (ds_pure (fun _ => .p (.agg (TValue.cs r1))) rfl rfl rfl (all2 rfl (fun _ => rfl)) (lt1 rfl) (stg_no rfl (stg_yes [(9, _)] ⟨.inr ⟨2, _, rfl, rfl, rfl⟩, trivial⟩ (fun sl hsl K hK => one_op rfl (ok_callP (law46_word_ok name_1 _ e2) rfl rfl rfl (args_cons (hsl _ _ rfl) args_nil) ⟨sr, trivial⟩ Tryz.call22 rfl hK)) stg_nil)) ?_)
 refine ds_pure (fun _ => .p (.agg (TValue.cs r3))) rfl rfl rfl (all2 rfl (fun _ => rfl)) (lt1 rfl) (stg_no rfl (stg_yes [] trivial (fun sl hsl K hK => one_op rfl (ok_callP (law46_word_ok ([115, 51] : Bytes) _ e4) rfl rfl rfl (args_cons rfl args_nil) ⟨sr, trivial⟩ Tryz.call22 rfl hK)) stg_nil)) (ds_pure (fun _ => .p (.agg (TValue.cs size_2))) rfl rfl rfl (all2 rfl (fun _ => rfl)) (lt1 rfl) (stg_no rfl (stg_yes [(5, _)] ⟨.inl rfl, trivial⟩ (fun sl hsl K hK => one_op rfl (ok_loadPA rfl rfl rfl rfl rfl (hsl _ _ rfl) rfl rfl rfl hK)) stg_nil)) ?_)
 refine ds_pure (fun _ => .p (eL eTValue [id_0, r1, r3, size_2])) rfl rfl rfl (all2 rfl (fun _ => rfl)) (lt1 rfl) (stg_no rfl (stg_yes [(8, _), (10, _), (11, _), (12, _)] ⟨.inr ⟨1, _, rfl, rfl, rfl⟩, .inr ⟨3, _, rfl, rfl, rfl⟩, .inr ⟨4, _, rfl, rfl, rfl⟩, .inr ⟨5, _, rfl, rfl, rfl⟩, trivial⟩ (fun sl hsl K hK => one_op rfl (op_bslice eTValue [id_0, r1, r3, size_2] rfl rfl rfl rfl rfl rfl (elems_cons (hsl _ _ rfl) rfl (elems_cons (hsl _ _ rfl) rfl (elems_cons (hsl _ _ rfl) rfl (elems_cons (hsl _ _ rfl) rfl elems_nil)))) rfl rfl rfl rfl rfl rfl (by first | rfl | (simp only [List.map_cons, List.map_nil, TValue.agg_eq]; done) | (simp only [List.map_cons, List.map_nil, TValue.agg_eq]; rfl)) hK)) stg_nil)) (ds_pure (fun _ => .p (.agg [eI 5, eI 0, eS ([] : Bytes), eL eTValue [id_0, r1, r3, size_2], eL eS ([([105, 100] : Bytes), ([110, 97, 109, 101] : Bytes), ([115, 101, 99, 114, 101, 116] : Bytes), ([115, 105, 122, 101] : Bytes)])])) rfl rfl rfl (all2 rfl (fun _ => rfl)) (lt1 rfl) (stg_no rfl (stg_yes [(7, _), (13, _)] ⟨.inr ⟨0, _, rfl, rfl, rfl⟩, .inr ⟨6, _, rfl, rfl, rfl⟩, trivial⟩ (fun sl hsl K hK => one_op rfl (ok_build rfl rfl rfl rfl rfl rfl (parts_cons rfl (parts_cons (hsl _ _ rfl) (parts_cons (hsl _ _ rfl) parts_nil))) rfl rfl hK)) stg_nil)) ?_)
 refine ds_store [(6, _), (14, _)] rfl ⟨.inl rfl, .inr ⟨7, _, rfl, rfl, rfl⟩, trivial⟩ rfl (fun sl hsl K hK => one_op rfl (ok_store rfl rfl rfl (hsl _ _ rfl) (hsl _ _ rfl) rfl rfl rfl (Nat.le_of_ble_eq_true rfl) hK)) (ds_nil ?_)
 exact nx 2 rfl (mQ (oi h0) rfl (sr))

def law46_example : Option TSchema :=
 some (TSchema.mk ([(TAttr.mk ([105, 100] : Bytes) (TType.mk 3 [] []) 3 false false false), (TAttr.mk ([110, 97, 109, 101] : Bytes) (TType.mk 3 [] []) 1 true false false), (TAttr.mk ([115, 101, 99, 114, 101, 116] : Bytes) (TType.mk 3 [] []) 2 false true false), (TAttr.mk ([115, 105, 122, 101] : Bytes) (TType.mk 2 [] []) 2 false false false)]) [])

set_option maxHeartbeats 4000000 in
theorem law46_example_ok (r : TSchema) (h0 : law46_example = some r) : PCalls Tryz.prog 21 [] (· = .p (.agg (TSchema.cs r))) := by
 unfold law46_example at h0
 refine pbodyA good Tryz.func21 rfl rfl rfl fun w0 => mP (fun v : TSchema => .p (.agg (TSchema.cs v))) ?_
 refine nx 20 rfl (mG (ghost_slot 4 (y := .p (.agg (TAttr.cs (TAttr.mk ([105, 100] : Bytes) (TType.mk 3 [] []) 3 false false false)))) rfl (sub_cells ⟨.inl rfl, .inl rfl, .inr ⟨rfl, rfl⟩, .inr ⟨rfl, rfl⟩, .inl rfl, .inl rfl, .inl rfl, .inl rfl, trivial⟩)) ?_)
 refine mG (ghost_slot 6 (y := .p (.agg (TAttr.cs (TAttr.mk ([110, 97, 109, 101] : Bytes) (TType.mk 3 [] []) 1 true false false)))) rfl (sub_cells ⟨.inl rfl, .inl rfl, .inr ⟨rfl, rfl⟩, .inr ⟨rfl, rfl⟩, .inl rfl, .inl rfl, .inl rfl, .inl rfl, trivial⟩)) (mG (ghost_slot 8 (y := .p (.agg (TAttr.cs (TAttr.mk ([115, 101, 99, 114, 101, 116] : Bytes) (TType.mk 3 [] []) 2 false true false)))) rfl (sub_cells ⟨.inl rfl, .inl rfl, .inr ⟨rfl, rfl⟩, .inr ⟨rfl, rfl⟩, .inl rfl, .inl rfl, .inl rfl, .inl rfl, trivial⟩)) ?_)
 refine mG (ghost_slot 10 (y := .p (.agg (TAttr.cs (TAttr.mk ([115, 105, 122, 101] : Bytes) (TType.mk 2 [] []) 2 false false false)))) rfl (sub_cells ⟨.inl rfl, .inl rfl, .inr ⟨rfl, rfl⟩, .inr ⟨rfl, rfl⟩, .inl rfl, .inl rfl, .inl rfl, .inl rfl, trivial⟩)) (mO rfl (op_bslice eTAttr [(TAttr.mk ([105, 100] : Bytes) (TType.mk 3 [] []) 3 false false false), (TAttr.mk ([110, 97, 109, 101] : Bytes) (TType.mk 3 [] []) 1 true false false), (TAttr.mk ([115, 101, 99, 114, 101, 116] : Bytes) (TType.mk 3 [] []) 2 false true false), (TAttr.mk ([115, 105, 122, 101] : Bytes) (TType.mk 2 [] []) 2 false false false)] rfl rfl rfl rfl rfl rfl rfl rfl rfl rfl rfl rfl rfl (by first | rfl | (simp only [List.map_cons, List.map_nil, TAttr.agg_eq]; done) | (simp only [List.map_cons, List.map_nil, TAttr.agg_eq]; rfl)) ?_))
 exact nx 4 rfl (mQ (oi h0) rfl (sub_cells ⟨.inl rfl, .inr ⟨rfl, rfl⟩, trivial⟩))

def law46_awake (n : Nat) : Option Bool :=
 (law46_net (TValue.mk 6 0 ([] : Bytes) [] []) ([120] : Bytes) (TValue.mk 0 0 ([] : Bytes) [] [])).bind fun r1 =>
 (law46_example).bind fun r3 =>
 (explain_Change n (TChange.mk ([110, 101, 116, 46, 97] : Bytes) ([] : Bytes) ([110, 101, 116] : Bytes) 1 1 (TValue.mk 0 0 ([] : Bytes) [] []) r1 ([] : Bytes) [] false false false [] []) r3).bind fun r5 =>
 (law46_word ([49] : Bytes)).bind fun r7 =>
 (law46_net r7 ([120] : Bytes) (TValue.mk 0 0 ([] : Bytes) [] [])).bind fun r9 =>
 (law46_word ([49] : Bytes)).bind fun r11 =>
 (law46_net r11 ([120] : Bytes) (TValue.mk 2 5 ([] : Bytes) [] [])).bind fun r13 =>
 (law46_example).bind fun r15 =>
 (explain_Change n (TChange.mk ([110, 101, 116, 46, 97] : Bytes) ([] : Bytes) ([110, 101, 116] : Bytes) 2 2 r9 r13 ([] : Bytes) [] false false false [] []) r15).bind fun r17 =>
 (
   if (r5.length : Int) = 4 then
    ck ((0 : Int) ≤ 0 ∧ 0 < (r5.length : Int)) <|
    if lat r5 0 = ([43, 32, 110, 101, 116, 46, 97, 58, 32, 110, 101, 119] : Bytes) then
     ck ((0 : Int) ≤ 1 ∧ 1 < (r5.length : Int)) <|
     if lat r5 1 = ([32, 32, 32, 32, 105, 100, 32, 61, 32, 40, 117, 110, 107, 110, 111, 119, 110, 41] : Bytes) then
      ck ((0 : Int) ≤ 2 ∧ 2 < (r5.length : Int)) <|
      if lat r5 2 = ([32, 32, 32, 32, 110, 97, 109, 101, 32, 61, 32, 34, 120, 34] : Bytes) then
       ck ((0 : Int) ≤ 3 ∧ 3 < (r5.length : Int)) <|
       if lat r5 3 = ([32, 32, 32, 32, 115, 101, 99, 114, 101, 116, 32, 61, 32, 34, 40, 115, 101, 110, 115, 105, 116, 105, 118, 101, 41, 34] : Bytes) then
        if (r17.length : Int) = 2 then
         ck ((0 : Int) ≤ 1 ∧ 1 < (r17.length : Int)) <|
         if lat r17 1 = ([32, 32, 32, 32, 115, 105, 122, 101, 32, 61, 32, 110, 117, 108, 108, 32, 45, 62, 32, 53] : Bytes) then
          (explain_Summary n (TPlan.mk (TPlanOptions.mk false false [] [] (TValue.mk 0 0 ([] : Bytes) [] []) (TValue.mk 0 0 ([] : Bytes) [] [])) (TState.mk ([] : Bytes) 0 [] [] []) ([(TChange.mk ([110, 101, 116, 46, 97] : Bytes) ([] : Bytes) ([110, 101, 116] : Bytes) 1 1 (TValue.mk 0 0 ([] : Bytes) [] []) r1 ([] : Bytes) [] false false false [] [])]) [] [] [] [])).bind fun r31 =>
          if r31 = ([49, 32, 116, 111, 32, 99, 114, 101, 97, 116, 101, 44, 32, 48, 32, 116, 111, 32, 117, 112, 100, 97, 116, 101, 44, 32, 48, 32, 116, 111, 32, 114, 101, 112, 108, 97, 99, 101, 44, 32, 48, 32, 116, 111, 32, 100, 101, 108, 101, 116, 101] : Bytes) then
           (explain_Plan n (TPlan.mk (TPlanOptions.mk false false [] [] (TValue.mk 0 0 ([] : Bytes) [] []) (TValue.mk 0 0 ([] : Bytes) [] [])) (TState.mk ([] : Bytes) 0 [] [] []) [] [] [] [] []) []).bind fun r34 =>
           some (decide (r34 = ([110, 111, 32, 99, 104, 97, 110, 103, 101, 115, 10] : Bytes)))
          else
           some false
         else
          some false
        else
         some false
       else
        some false
      else
       some false
     else
      some false
    else
     some false
   else
    some false
  : Option Bool).bind fun t36 =>
 some t36

set_option maxHeartbeats 4000000 in
theorem law46_awake_ok (n : Nat) (r : Bool) (h0 : law46_awake n = some r) : PCalls Tryz.prog 9 [] (· = .p (eB r)) := by
 unfold law46_awake at h0
 refine pbodyA good Tryz.func9 rfl rfl rfl fun w0 => mP (fun v : Bool => .p (eB v)) ?_
 refine nx 8 rfl (bd h0 fun r1 e2 h0 => ?_)
 refine oK (law46_net_ok (TValue.mk 6 0 ([] : Bytes) [] []) ([120] : Bytes) (TValue.mk 0 0 ([] : Bytes) [] []) _ e2) rfl ⟨sub_cells ⟨.inl rfl, .inl rfl, .inl rfl, .inr ⟨rfl, rfl⟩, .inr ⟨rfl, rfl⟩, trivial⟩, sr, sub_cells ⟨.inl rfl, .inl rfl, .inl rfl, .inr ⟨rfl, rfl⟩, .inr ⟨rfl, rfl⟩, trivial⟩, trivial⟩ Tryz.call20 rfl (nx 11 rfl ?_)
 refine bd h0 fun r3 e4 h0 => bd h0 fun r5 e6 h0 => mD [(2, .ptr 2 0)] rfl ⟨rfl, trivial⟩ rfl (dR 1 rfl ?_)
 refine dq (.p (.agg (TSchema.cs r3))) [] rfl (fun _ e _ q => one_op rfl (ok_callP (law46_example_ok  _ e4) rfl rfl rfl args_nil trivial Tryz.call21 rfl q)) rfl (dq (.p (eL eS r5)) [12,13] rfl (fun _ e _ q => one_op rfl (ok_callP (explain_Change_ok _ (TChange.mk ([110, 101, 116, 46, 97] : Bytes) ([] : Bytes) ([110, 101, 116] : Bytes) 1 1 (TValue.mk 0 0 ([] : Bytes) [] []) r1 ([] : Bytes) [] false false false [] []) r3 _ e6) rfl rfl rfl (args_cons (e _ _ rfl) (args_cons (e _ _ rfl) args_nil)) ⟨sub_cells ⟨.inl rfl, .inl rfl, .inl rfl, .inl rfl, .inl rfl, .inl rfl, .inl rfl, .inl rfl, .inr ⟨rfl, rfl⟩, .inr ⟨rfl, rfl⟩, .inl rfl, .inl rfl, .inl rfl, .inl rfl, .inl rfl, .inl rfl, .inr ⟨rfl, rfl⟩, .inl rfl, .inl rfl, .inl rfl, .inr ⟨rfl, rfl⟩, .inr ⟨rfl, rfl⟩, trivial⟩, sr, trivial⟩ Tryz.call13 rfl q)) rfl ?_)
 refine dR 1 rfl (dE rfl ?_)
 refine nx 3 rfl (bd h0 fun r7 e8 h0 => ?_)
 refine oK (law46_word_ok ([49] : Bytes) _ e8) rfl ⟨sr, trivial⟩ Tryz.call22 rfl (nx 1 rfl ?_)
 refine bd h0 fun r9 e10 h0 => oK (law46_net_ok r7 ([120] : Bytes) (TValue.mk 0 0 ([] : Bytes) [] []) _ e10) rfl ⟨sr, sr, sub_cells ⟨.inl rfl, .inl rfl, .inl rfl, .inr ⟨rfl, rfl⟩, .inr ⟨rfl, rfl⟩, trivial⟩, trivial⟩ Tryz.call20 rfl (bd h0 fun r11 e12 h0 => ?_)
 refine oK (law46_word_ok ([49] : Bytes) _ e12) rfl ⟨sr, trivial⟩ Tryz.call22 rfl (nx 1 rfl ?_)
 refine bd h0 fun r13 e14 h0 => oK (law46_net_ok r11 ([120] : Bytes) (TValue.mk 2 5 ([] : Bytes) [] []) _ e14) rfl ⟨sr, sr, sub_cells ⟨.inl rfl, .inl rfl, .inl rfl, .inr ⟨rfl, rfl⟩, .inr ⟨rfl, rfl⟩, trivial⟩, trivial⟩ Tryz.call20 rfl (nx 5 rfl ?_)
 refine bd h0 fun r15 e16 h0 => bd h0 fun r17 e18 h0 => mD [(2, .ptr 2 0), (3, .p (eL eS r5)), (4, .ptr 4 0)] rfl ⟨rfl, rfl, rfl, trivial⟩ rfl (dR 1 rfl ?_)
 refine dq (.p (.agg (TSchema.cs r15))) [] rfl (fun _ e _ q => one_op rfl (ok_callP (law46_example_ok  _ e16) rfl rfl rfl args_nil trivial Tryz.call21 rfl q)) rfl (dq (.p (eL eS r17)) [22,23] rfl (fun _ e _ q => one_op rfl (ok_callP (explain_Change_ok _ (TChange.mk ([110, 101, 116, 46, 97] : Bytes) ([] : Bytes) ([110, 101, 116] : Bytes) 2 2 r9 r13 ([] : Bytes) [] false false false [] []) r15 _ e18) rfl rfl rfl (args_cons (e _ _ rfl) (args_cons (e _ _ rfl) args_nil)) ⟨sub_cells ⟨.inl rfl, .inl rfl, .inl rfl, .inl rfl, .inl rfl, .inl rfl, .inl rfl, .inl rfl, .inl rfl, .inl rfl, .inl rfl, .inl rfl, .inl rfl, .inl rfl, .inl rfl, .inl rfl, .inr ⟨rfl, rfl⟩, .inl rfl, .inl rfl, .inl rfl, .inr ⟨rfl, rfl⟩, .inr ⟨rfl, rfl⟩, trivial⟩, sr, trivial⟩ Tryz.call13 rfl q)) rfl ?_)
 refine dR 1 rfl (dE rfl ?_)
 refine nx 4 rfl (mG (ghost_slot 25 (y := .p (.agg (TChange.cs (TChange.mk ([110, 101, 116, 46, 97] : Bytes) ([] : Bytes) ([110, 101, 116] : Bytes) 1 1 (TValue.mk 0 0 ([] : Bytes) [] []) r1 ([] : Bytes) [] false false false [] [])))) rfl (sub_cells ⟨.inl rfl, .inl rfl, .inl rfl, .inl rfl, .inl rfl, .inl rfl, .inl rfl, .inl rfl, .inr ⟨rfl, rfl⟩, .inr ⟨rfl, rfl⟩, .inl rfl, .inl rfl, .inl rfl, .inl rfl, .inl rfl, .inl rfl, .inr ⟨rfl, rfl⟩, .inl rfl, .inl rfl, .inl rfl, .inr ⟨rfl, rfl⟩, .inr ⟨rfl, rfl⟩, trivial⟩)) ?_)
 refine mO rfl (op_bslice eTChange [(TChange.mk ([110, 101, 116, 46, 97] : Bytes) ([] : Bytes) ([110, 101, 116] : Bytes) 1 1 (TValue.mk 0 0 ([] : Bytes) [] []) r1 ([] : Bytes) [] false false false [] [])] rfl rfl rfl rfl rfl rfl rfl rfl rfl rfl rfl rfl rfl (by first | rfl | (simp only [List.map_cons, List.map_nil, TChange.agg_eq]; done) | (simp only [List.map_cons, List.map_nil, TChange.agg_eq]; rfl)) ?_)
 refine nx 5 rfl (bd h0 fun o38 h1 h0 => ?_)
 refine kN o38 (fun v39 => ⟨[(0, .p (eB v39))], []⟩) ?_ ?_
 ·exact nx 2 rfl (mQ (oi h0) rfl (sr))
 refine nx 2 rfl (oLl (f := eS) rfl rfl ?_)
 refine nx 2 rfl (fD [30, 31] h1 rfl (fun c19 h1 => ?_) fun c19 h1 => ?_)
 ·refine nx 1 rfl (oE h1 (fun _ => rfl) rfl rfl (fun _ => rfl) fun hk20 h1 => ?_)
  refine nx 1 rfl (oS rfl rfl ?_)
  refine nx 2 rfl (fD [35, 36, 37] h1 rfl (fun c21 h1 => ?_) fun c21 h1 => ?_)
  ·refine nx 1 rfl (oE h1 (fun _ => rfl) rfl rfl (fun _ => rfl) fun hk22 h1 => ?_)
   refine nx 1 rfl (oS rfl rfl ?_)
   refine nx 2 rfl (fD [41, 42, 43] h1 rfl (fun c23 h1 => ?_) fun c23 h1 => ?_)
   ·refine nx 1 rfl (oE h1 (fun _ => rfl) rfl rfl (fun _ => rfl) fun hk24 h1 => ?_)
    refine nx 1 rfl (oS rfl rfl ?_)
    refine nx 2 rfl (fD [47, 48, 49] h1 rfl (fun c25 h1 => ?_) fun c25 h1 => ?_)
    ·refine nx 1 rfl (oE h1 (fun _ => rfl) rfl rfl (fun _ => rfl) fun hk26 h1 => ?_)
     refine nx 1 rfl (oS rfl rfl ?_)
     refine nx 2 rfl (fD [53, 54, 55] h1 rfl (fun c27 h1 => ?_) fun c27 h1 => ?_)
     ·refine nx 1 rfl (oLl (f := eS) rfl rfl ?_)
      refine nx 3 rfl (fD [58, 59, 60] h1 rfl (fun c28 h1 => ?_) fun c28 h1 => ?_)
      ·refine nx 1 rfl (oE h1 (fun _ => rfl) rfl rfl (fun _ => rfl) fun hk29 h1 => ?_)
       refine nx 1 rfl (oS rfl rfl ?_)
       refine nx 2 rfl (fD [64, 65, 66] h1 rfl (fun c30 h1 => ?_) fun c30 h1 => ?_)
       ·refine nx 1 rfl (bd h1 fun r31 e32 h1 => ?_)
        refine oK (explain_Summary_ok _ (TPlan.mk (TPlanOptions.mk false false [] [] (TValue.mk 0 0 ([] : Bytes) [] []) (TValue.mk 0 0 ([] : Bytes) [] [])) (TState.mk ([] : Bytes) 0 [] [] []) ([(TChange.mk ([110, 101, 116, 46, 97] : Bytes) ([] : Bytes) ([110, 101, 116] : Bytes) 1 1 (TValue.mk 0 0 ([] : Bytes) [] []) r1 ([] : Bytes) [] false false false [] [])]) [] [] [] []) _ e32) rfl ⟨sub_cells ⟨.inl rfl, .inl rfl, .inr ⟨rfl, rfl⟩, .inr ⟨rfl, rfl⟩, .inl rfl, .inl rfl, .inl rfl, .inr ⟨rfl, rfl⟩, .inr ⟨rfl, rfl⟩, .inl rfl, .inl rfl, .inl rfl, .inr ⟨rfl, rfl⟩, .inr ⟨rfl, rfl⟩, .inl rfl, .inl rfl, .inr ⟨rfl, rfl⟩, .inr ⟨rfl, rfl⟩, .inr ⟨rfl, rfl⟩, .inl rfl, .inr ⟨rfl, rfl⟩, .inr ⟨rfl, rfl⟩, .inr ⟨rfl, rfl⟩, .inr ⟨rfl, rfl⟩, trivial⟩, trivial⟩ Tryz.call17 rfl (oS rfl rfl ?_)
        refine nx 2 rfl (fD [69, 70, 71] h1 rfl (fun c33 h1 => ?_) fun c33 h1 => ?_)
        ·refine nx 1 rfl (bd h1 fun r34 e35 h1 => ?_)
         refine oK (explain_Plan_ok _ (TPlan.mk (TPlanOptions.mk false false [] [] (TValue.mk 0 0 ([] : Bytes) [] []) (TValue.mk 0 0 ([] : Bytes) [] [])) (TState.mk ([] : Bytes) 0 [] [] []) [] [] [] [] []) [] _ e35) rfl ⟨sub_cells ⟨.inl rfl, .inl rfl, .inr ⟨rfl, rfl⟩, .inr ⟨rfl, rfl⟩, .inl rfl, .inl rfl, .inl rfl, .inr ⟨rfl, rfl⟩, .inr ⟨rfl, rfl⟩, .inl rfl, .inl rfl, .inl rfl, .inr ⟨rfl, rfl⟩, .inr ⟨rfl, rfl⟩, .inl rfl, .inl rfl, .inr ⟨rfl, rfl⟩, .inr ⟨rfl, rfl⟩, .inr ⟨rfl, rfl⟩, .inr ⟨rfl, rfl⟩, .inr ⟨rfl, rfl⟩, .inr ⟨rfl, rfl⟩, .inr ⟨rfl, rfl⟩, .inr ⟨rfl, rfl⟩, trivial⟩, sub_nilL _, trivial⟩ Tryz.call16 rfl (oS rfl rfl ?_)
         exact nx 3 rfl (eX _ (oi h1).symm (gE rfl rfl))
        exact nx 6 rfl (eX _ (oi h1).symm (gE rfl rfl))
       exact nx 11 rfl (eX _ (oi h1).symm (gE rfl rfl))
      exact nx 17 rfl (eX _ (oi h1).symm (gE rfl rfl))
     exact nx 22 rfl (eX _ (oi h1).symm (gE rfl rfl))
    exact nx 28 rfl (eX _ (oi h1).symm (gE rfl rfl))
   exact nx 34 rfl (eX _ (oi h1).symm (gE rfl rfl))
  exact nx 40 rfl (eX _ (oi h1).symm (gE rfl rfl))
 exact nx 46 rfl (eX _ (oi h1).symm (gE rfl rfl))

end Go.Ab.R06
