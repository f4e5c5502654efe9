/- Chapter 06. -/
import Derived.Test.YtijgdpmadidpaaaGreatDoorR06q
import Derived.Test.YtijgdpmadidpaaaGreatDoorDat06
set_option linter.unusedVariables false
set_option linter.unusedSimpArgs false
set_option linter.unnecessarySimpa false
namespace Go.Ab.R06
open Go.Proofs Go.Ab Go.Ab.RB
attribute [local irreducible] awp rwpL OpOk PCalls OCalls AV.sub M Ghost

def ref06_begins (s_0 : Bytes) (p_1 : Bytes) : Option Bool :=
 (
   if (p_1.length : Int) ≤ (s_0.length : Int) then
    ck ((0 : Int) ≤ 0 ∧ 0 ≤ (p_1.length : Int) ∧ (p_1.length : Int) ≤ (s_0.length : Int)) <|
    some (decide (sub s_0 0 (p_1.length : Int) = p_1))
   else
    some false
  : Option Bool).bind fun t3 =>
 some t3

set_option maxHeartbeats 4000000 in
theorem ref06_begins_ok (s_0 : Bytes) (p_1 : Bytes) (r : Bool) (h0 : ref06_begins s_0 p_1 = some r) : PCalls Tryz.prog 75 [eS s_0, eS p_1] (· = .p (eB r)) := by
 unfold ref06_begins at h0
 refine pbodyA good Tryz.func75 rfl rfl rfl fun w0 => mP (fun v : Bool => .p (eB v)) ?_
 refine nx 5 rfl (bd h0 fun o5 h1 h0 => ?_)
 refine kN o5 (fun v6 => ⟨[(4, .p (eB v6))], []⟩) ?_ ?_
 ·exact nx 2 rfl (mQ (oi h0) rfl (sr))
 refine nx 2 rfl (oLs rfl ?_)
 refine nx 1 rfl (oLs rfl ?_)
 refine nx 2 rfl (fD [9, 10] h1 rfl (fun c1 h1 => ?_) fun c1 h1 => ?_)
 ·refine nx 2 rfl (oLs rfl ?_)
  refine oP h1 rfl rfl rfl fun hk2 h1 => nx 1 rfl (oS rfl rfl ?_)
  exact nx 3 rfl (eX _ (oi h1).symm (gE rfl rfl))
 exact nx 9 rfl (eX _ (oi h1).symm (gE rfl rfl))

def ref06_word_l1 (s_0 : Bytes) : Nat → Int → Option Int
 | 0, _ => none
 | m + 1, n13 =>
 (
   if n13 < (s_0.length : Int) then
    ck ((0 : Int) ≤ n13 ∧ n13 < (s_0.length : Int)) <|
    (ref06_letter (byt s_0 n13)).bind fun r16 =>
    if r16 = true then
     some true
    else
     ck ((0 : Int) ≤ n13 ∧ n13 < (s_0.length : Int)) <|
     if 48 ≤ byt s_0 n13 then
      ck ((0 : Int) ≤ n13 ∧ n13 < (s_0.length : Int)) <|
      some (decide (byt s_0 n13 ≤ 57))
     else
      some false
   else
    some false
  : Option Bool).bind fun t22 =>
 if t22 = true then
  ck (inR (n13 + 1)) <|
  ref06_word_l1 s_0 m (n13 + 1)
 else
  some n13

def ref06_word (n : Nat) (s_0 : Bytes) : Option (Bytes × Bytes) :=
 (ref06_word_l1 s_0 n 0).bind fun n26 =>
 ck ((0 : Int) ≤ 0 ∧ 0 ≤ n26 ∧ n26 ≤ (s_0.length : Int)) <|
 ck ((0 : Int) ≤ n26 ∧ n26 ≤ (s_0.length : Int) ∧ (s_0.length : Int) ≤ (s_0.length : Int)) <|
 some (sub s_0 0 n26, sub s_0 n26 (s_0.length : Int))

set_option maxHeartbeats 4000000 in
theorem ref06_word_ok (n : Nat) (s_0 : Bytes) (r : Bytes × Bytes) (h0 : ref06_word n s_0 = some r) : PCalls Tryz.prog 77 [eS s_0] (· = .tuple [.p (eS r.1), .p (eS r.2)]) := by
 unfold ref06_word at h0
 refine pbodyA good Tryz.func77 rfl rfl rfl fun w0 => mP (fun v : Bytes × Bytes => .tuple [.p (eS v.1), .p (eS v.2)]) ?_
 refine nx 11 rfl (bd h0 fun o31 h1 h0 => ?_)
 refine kE 0 o31 (fun v32 => ⟨[(0, .p (eS s_0)), (4, .p (eI v32))], []⟩) ?_ ?_
 ·refine nx 2 rfl (cc' h0 fun hk27 h0 => ?_)
  refine cc' h0 fun hk28 h0 => mD [(0, .p (eS s_0)), (4, .p (eI o31))] rfl ⟨rfl, rfl, trivial⟩ rfl (dR 2 rfl ?_)
  refine dq (.p (eS (sub s_0 0 o31))) [29,30] rfl (fun _ e _ q => one_op rfl (op_sliceS (a := s_0) (l := 0) (h := o31) rfl rfl rfl rfl rfl (e _ _ rfl) rfl (hi_some (e _ _ rfl)) hk27 q)) rfl (dR 2 rfl ?_)
  refine dq (.p (eS (sub s_0 o31 (s_0.length : Int)))) [32,33] rfl (fun _ e _ q => one_op rfl (op_sliceS (a := s_0) (l := o31) (h := (s_0.length : Int)) rfl rfl rfl rfl rfl (e _ _ rfl) (lo_some (e _ _ rfl)) rfl hk28 q)) rfl (dR 2 rfl ?_)
  refine dE rfl (nx 2 rfl ?_)
  exact mQ (oi h0) rfl (sub_tuple ⟨sr, sr, trivial⟩)
 refine lG (fun (q33 : Int) => ⟨[(0, .p (eS s_0)), (4, .p (eI q33))], []⟩) (fun m (q33 : Int) => ref06_word_l1 s_0 m q33) (fun _ => rfl) 0 h1 (gE rfl rfl) ?_
 rintro m n13 h1
 replace h1 : ref06_word_l1 s_0 (m + 1) n13 = some o31 := h1
 rw [ref06_word_l1] at h1
 refine nx 2 rfl (bd h1 fun o34 h2 h1 => ?_)
 refine kN o34 (fun v35 => ⟨[(0, .p (eS s_0)), (4, .p (eI n13)), (26, .p (eB v35))], []⟩) ?_ ?_
 ·refine nx 1 rfl (fB [26] h1 rfl (fun c23 h1 => ?_) fun c23 h1 => ?_)
  ·refine nx 5 rfl (oA h1 rfl rfl fun hk24 h1 => ?_)
   exact nx 2 rfl (eX (n13 + 1) h1 (gE rfl rfl))
  exact nx 2 rfl (eXi _ (oi h1).symm (gE rfl rfl))
 refine nx 3 rfl (oLs rfl ?_)
 refine nx 2 rfl (fD [8, 9] h2 rfl (fun c14 h2 => ?_) fun c14 h2 => ?_)
 ·refine nx 2 rfl (oI h2 rfl fun hk15 h2 => ?_)
  refine bd h2 fun r16 e17 h2 => oK (ref06_letter_ok (byt s_0 n13) _ e17) rfl ⟨sr, trivial⟩ Tryz.call62 rfl (nx 1 rfl ?_)
  refine fB [13, 14] h2 rfl (fun c18 h2 => ?_) fun c18 h2 => ?_
  ·exact nx 13 rfl (eX _ (oi h2).symm (gE rfl rfl))
  refine nx 2 rfl (oI h2 rfl fun hk19 h2 => ?_)
  refine nx 2 rfl (fD [18, 19] h2 rfl (fun c20 h2 => ?_) fun c20 h2 => ?_)
  ·refine nx 2 rfl (oI h2 rfl fun hk21 h2 => ?_)
   exact nx 5 rfl (eX _ (oi h2).symm (gE rfl rfl))
  exact nx 8 rfl (eX _ (oi h2).symm (gE rfl rfl))
 exact nx 18 rfl (eX _ (oi h2).symm (gE rfl rfl))

def ref02_hex (b_0 : Int) : Option Int :=
 (
   if 48 ≤ b_0 then
    some (decide (b_0 ≤ 57))
   else
    some false
  : Option Bool).bind fun t2 =>
 if t2 = true then
  ck (inR (IntKind.wrap .u8 (b_0 - 48))) <|
  some (IntKind.wrap .u8 (b_0 - 48))
 else
  (
    if 97 ≤ b_0 then
     some (decide (b_0 ≤ 102))
    else
     some false
   : Option Bool).bind fun t6 =>
  if t6 = true then
   ck (inR (IntKind.wrap .u8 (b_0 - 97))) <|
   ck (inR ((IntKind.wrap .u8 (b_0 - 97)) + 10)) <|
   some ((IntKind.wrap .u8 (b_0 - 97)) + 10)
  else
   some (-1)

set_option maxHeartbeats 4000000 in
theorem ref02_hex_ok (b_0 : Int) (r : Int) (h0 : ref02_hex b_0 = some r) : PCalls Tryz.prog 145 [eK .u8 b_0] (· = .p (eI r)) := by
 unfold ref02_hex at h0
 refine pbodyA good Tryz.func145 rfl rfl rfl fun w0 => mP (fun v : Int => .p (eI v)) ?_
 refine nx 6 rfl (bd h0 fun o12 h1 h0 => ?_)
 refine kN o12 (fun v13 => ⟨[(0, .p (eK .u8 b_0)), (8, .p (eB v13))], []⟩) ?_ ?_
 ·refine nx 1 rfl (fB [8] h0 rfl (fun c3 h0 => ?_) fun c3 h0 => ?_)
  ·refine nx 5 rfl (cc' h0 fun hk4 h0 => ?_)
   refine mO rfl (ok_convInt rfl rfl rfl rfl rfl rfl rfl rfl (wrap_in hk4) ?_)
   exact nx 3 rfl (mQ (oi h0) rfl (sr))
  refine nx 4 rfl (bd h0 fun o14 h1 h0 => ?_)
  refine kN o14 (fun v15 => ⟨[(0, .p (eK .u8 b_0)), (17, .p (eB v15))], []⟩) ?_ ?_
  ·refine nx 1 rfl (fB [17] h0 rfl (fun c7 h0 => ?_) fun c7 h0 => ?_)
   ·refine nx 5 rfl (cc' h0 fun hk8 h0 => ?_)
    refine mO rfl (ok_convInt rfl rfl rfl rfl rfl rfl rfl rfl (wrap_in hk8) ?_)
    exact oA h0 rfl rfl fun hk9 h0 => nx 3 rfl (mQ (oi h0) rfl (sr))
   exact nx 7 rfl (mQ (oi h0) rfl (sr))
  refine nx 4 rfl (fD [13, 14] h1 rfl (fun c5 h1 => ?_) fun c5 h1 => ?_)
  ·exact nx 4 rfl (eX _ (oi h1).symm (gE rfl rfl))
  exact nx 4 rfl (eX _ (oi h1).symm (gE rfl rfl))
 refine nx 4 rfl (fD [4, 5] h1 rfl (fun c1 h1 => ?_) fun c1 h1 => ?_)
 ·exact nx 4 rfl (eX _ (oi h1).symm (gE rfl rfl))
 exact nx 4 rfl (eX _ (oi h1).symm (gE rfl rfl))

def ref02_point_l1 (s_0 : Bytes) (i_1 : Int) : Nat → Int → Int → Option (Int × Int)
 | 0, _, _ => none
 | m + 1, c19, n20 =>
 (
   ck (inR (i_1 + n20)) <|
   if i_1 + n20 < (s_0.length : Int) then
    if n20 < 6 then
     ck (inR (i_1 + n20)) <|
     ck ((0 : Int) ≤ i_1 + n20 ∧ i_1 + n20 < (s_0.length : Int)) <|
     (ref02_hex (byt s_0 (i_1 + n20))).bind fun r26 =>
     some (decide (0 ≤ r26))
    else
     some false
   else
    some false
  : Option Bool).bind fun t28 =>
 if t28 = true then
  ck (inR (16 * c19)) <|
  ck (inR (i_1 + n20)) <|
  ck ((0 : Int) ≤ i_1 + n20 ∧ i_1 + n20 < (s_0.length : Int)) <|
  (ref02_hex (byt s_0 (i_1 + n20))).bind fun r33 =>
  ck (inR ((16 * c19) + r33)) <|
  ck (inR (n20 + 1)) <|
  ref02_point_l1 s_0 i_1 m ((16 * c19) + r33) (n20 + 1)
 else
  some (c19, n20)

def ref02_point (n : Nat) (s_0 : Bytes) (i_1 : Int) : Option (Int × Int × Int) :=
 (ref02_point_l1 s_0 i_1 n 0 0).bind fun q58 =>
 ck (inR (i_1 + q58.2)) <|
 if (s_0.length : Int) ≤ i_1 + q58.2 then
  some (0, 0, 40)
 else
  (
    if q58.2 = 0 then
     some true
    else
     ck (inR (i_1 + q58.2)) <|
     ck ((0 : Int) ≤ i_1 + q58.2 ∧ i_1 + q58.2 < (s_0.length : Int)) <|
     if byt s_0 (i_1 + q58.2) = 125 then
      if 1 < q58.2 then
       ck ((0 : Int) ≤ i_1 ∧ i_1 < (s_0.length : Int)) <|
       if byt s_0 i_1 = 48 then
        some true
       else
        if 1114111 < q58.1 then
         some true
        else
         if 55296 ≤ q58.1 then
          some (decide (q58.1 ≤ 57343))
         else
          some false
      else
       if 1114111 < q58.1 then
        some true
       else
        if 55296 ≤ q58.1 then
         some (decide (q58.1 ≤ 57343))
        else
         some false
     else
      some true
   : Option Bool).bind fun t54 =>
  if t54 = true then
   some (0, 0, 2)
  else
   ck (inR (i_1 + q58.2)) <|
   ck (inR ((i_1 + q58.2) + 1)) <|
   some (q58.1, (i_1 + q58.2) + 1, 0)

set_option maxHeartbeats 4000000 in
theorem ref02_point_ok (n : Nat) (s_0 : Bytes) (i_1 : Int) (r : Int × Int × Int) (h0 : ref02_point n s_0 i_1 = some r) : PCalls Tryz.prog 143 [eS s_0, eI i_1] (· = .tuple [.p (eI r.1), .p (eI r.2.1), .p (eI r.2.2)]) := by
 unfold ref02_point at h0
 refine pbodyA good Tryz.func143 rfl rfl rfl fun w0 => mP (fun v : Int × Int × Int => .tuple [.p (eI v.1), .p (eI v.2.1), .p (eI v.2.2)]) ?_
 refine nx 13 rfl (bd h0 fun o61 h1 h0 => ?_)
 refine kE 0 o61 (fun v62 => ⟨[(0, .p (eS s_0)), (1, .p (eI i_1)), (7, .p (eI v62.1)), (8, .p (eI v62.2))], []⟩) ?_ ?_
 ·refine nx 6 rfl (oA h0 rfl rfl fun hk41 h0 => ?_)
  refine nx 1 rfl (oLs rfl ?_)
  refine nx 2 rfl (fD [44] h0 rfl (fun c42 h0 => ?_) fun c42 h0 => ?_)
  ·exact nx 8 rfl (mQ (oi h0) rfl (sub_tuple ⟨sr, sr, sr, trivial⟩))
  refine nx 4 rfl (bd h0 fun o63 h1 h0 => ?_)
  refine kN o63 (fun v64 => ⟨[(1, .p (eI i_1)), (7, .p (eI o61.1)), (8, .p (eI o61.2)), (76, .p (eB v64))], []⟩) ?_ ?_
  ·refine nx 1 rfl (fB [76] h0 rfl (fun c55 h0 => ?_) fun c55 h0 => ?_)
   ·exact nx 8 rfl (mQ (oi h0) rfl (sub_tuple ⟨sr, sr, sr, trivial⟩))
   refine nx 7 rfl (oA h0 rfl rfl fun hk56 h0 => ?_)
   exact oA h0 rfl rfl fun hk57 h0 => nx 5 rfl (mQ (oi h0) rfl (sub_tuple ⟨sr, sr, sr, trivial⟩))
  refine nx 4 rfl (fD [46, 47] h1 rfl (fun c43 h1 => ?_) fun c43 h1 => ?_)
  ·exact nx 30 rfl (eX _ (oi h1).symm (gE rfl rfl))
  refine nx 3 rfl (oA h1 rfl rfl fun hk44 h1 => ?_)
  refine oI h1 rfl fun hk45 h1 => nx 3 rfl (fN [53, 54, 55] h1 rfl (fun c46 h1 => ?_) fun c46 h1 => ?_)
  ·refine nx 3 rfl (fD [57, 58] h1 rfl (fun c47 h1 => ?_) fun c47 h1 => ?_)
   ·refine nx 2 rfl (oI h1 rfl fun hk48 h1 => ?_)
    refine nx 4 rfl (fD [62, 63, 64, 65] h1 rfl (fun c49 h1 => ?_) fun c49 h1 => ?_)
    ·exact nx 12 rfl (eX _ (oi h1).symm (gE rfl rfl))
    refine nx 4 rfl (fD [67, 68, 69] h1 rfl (fun c50 h1 => ?_) fun c50 h1 => ?_)
    ·exact nx 8 rfl (eX _ (oi h1).symm (gE rfl rfl))
    refine nx 3 rfl (fD [71, 72] h1 rfl (fun c51 h1 => ?_) fun c51 h1 => ?_)
    ·exact nx 5 rfl (eX _ (oi h1).symm (gE rfl rfl))
    exact nx 5 rfl (eX _ (oi h1).symm (gE rfl rfl))
   refine nx 11 rfl (fD [67, 68, 69] h1 rfl (fun c52 h1 => ?_) fun c52 h1 => ?_)
   ·exact nx 8 rfl (eX _ (oi h1).symm (gE rfl rfl))
   refine nx 3 rfl (fD [71, 72] h1 rfl (fun c53 h1 => ?_) fun c53 h1 => ?_)
   ·exact nx 5 rfl (eX _ (oi h1).symm (gE rfl rfl))
   exact nx 5 rfl (eX _ (oi h1).symm (gE rfl rfl))
  exact nx 22 rfl (eX _ (oi h1).symm (gE rfl rfl))
 refine lG (fun (q65 : Int × Int) => ⟨[(0, .p (eS s_0)), (1, .p (eI i_1)), (7, .p (eI q65.1)), (8, .p (eI q65.2))], []⟩) (fun m (q65 : Int × Int) => ref02_point_l1 s_0 i_1 m q65.1 q65.2) (fun _ => rfl) (0, 0) h1 (gE rfl rfl) ?_
 rintro m ⟨c19, n20⟩ h1
 replace h1 : ref02_point_l1 s_0 i_1 (m + 1) c19 n20 = some o61 := h1
 rw [ref02_point_l1] at h1
 refine nx 2 rfl (bd h1 fun o66 h2 h1 => ?_)
 refine kN o66 (fun v67 => ⟨[(0, .p (eS s_0)), (1, .p (eI i_1)), (7, .p (eI c19)), (8, .p (eI n20)), (27, .p (eB v67))], []⟩) ?_ ?_
 ·refine nx 1 rfl (fB [27] h1 rfl (fun c29 h1 => ?_) fun c29 h1 => ?_)
  ·refine nx 6 rfl (oA h1 rfl rfl fun hk30 h1 => ?_)
   refine nx 3 rfl (oA h1 rfl rfl fun hk31 h1 => ?_)
   refine oI h1 rfl fun hk32 h1 => bd h1 fun r33 e34 h1 => oK (ref02_hex_ok (byt s_0 (i_1 + n20)) _ e34) rfl ⟨sr, trivial⟩ Tryz.call145 rfl (oA h1 rfl rfl fun hk35 h1 => ?_)
   refine nx 4 rfl (oA h1 rfl rfl fun hk36 h1 => ?_)
   exact nx 2 rfl (eX ((16 * c19) + r33, n20 + 1) h1 (gE rfl rfl))
  exact nx 2 rfl (eXi _ (oi h1).symm (gE rfl rfl))
 refine nx 3 rfl (oA h2 rfl rfl fun hk21 h2 => ?_)
 refine nx 1 rfl (oLs rfl ?_)
 refine nx 2 rfl (fD [14, 15] h2 rfl (fun c22 h2 => ?_) fun c22 h2 => ?_)
 ·refine nx 4 rfl (fD [17, 18, 19] h2 rfl (fun c23 h2 => ?_) fun c23 h2 => ?_)
  ·refine nx 3 rfl (oA h2 rfl rfl fun hk24 h2 => ?_)
   refine oI h2 rfl fun hk25 h2 => bd h2 fun r26 e27 h2 => oK (ref02_hex_ok (byt s_0 (i_1 + n20)) _ e27) rfl ⟨sr, trivial⟩ Tryz.call145 rfl (nx 3 rfl ?_)
   exact eX _ (oi h2).symm (gE rfl rfl)
  exact nx 9 rfl (eX _ (oi h2).symm (gE rfl rfl))
 exact nx 13 rfl (eX _ (oi h2).symm (gE rfl rfl))

def ref02_Encode (c_0 : Int) : Option Bytes :=
 if c_0 < 128 then
  ck ((0 : Int) ≤ IntKind.wrap .u8 (c_0) ∧ IntKind.wrap .u8 (c_0) < 256) <|
  some [u8 (IntKind.wrap .u8 (c_0))]
 else
  if c_0 < 2048 then
   ck ((0 : Int) ≤ 6) <|
   ck ((0 : Int) ≤ IntKind.wrap .u8 (iOr .i64 192 (iShr .i64 c_0 6)) ∧ IntKind.wrap .u8 (iOr .i64 192 (iShr .i64 c_0 6)) < 256) <|
   ck ((0 : Int) ≤ IntKind.wrap .u8 (iOr .i64 128 (iAnd .i64 c_0 63)) ∧ IntKind.wrap .u8 (iOr .i64 128 (iAnd .i64 c_0 63)) < 256) <|
   some [u8 (IntKind.wrap .u8 (iOr .i64 192 (iShr .i64 c_0 6))), u8 (IntKind.wrap .u8 (iOr .i64 128 (iAnd .i64 c_0 63)))]
  else
   if c_0 < 65536 then
    ck ((0 : Int) ≤ 12) <|
    ck ((0 : Int) ≤ 6) <|
    ck ((0 : Int) ≤ IntKind.wrap .u8 (iOr .i64 224 (iShr .i64 c_0 12)) ∧ IntKind.wrap .u8 (iOr .i64 224 (iShr .i64 c_0 12)) < 256) <|
    ck ((0 : Int) ≤ IntKind.wrap .u8 (iOr .i64 128 (iAnd .i64 (iShr .i64 c_0 6) 63)) ∧ IntKind.wrap .u8 (iOr .i64 128 (iAnd .i64 (iShr .i64 c_0 6) 63)) < 256) <|
    ck ((0 : Int) ≤ IntKind.wrap .u8 (iOr .i64 128 (iAnd .i64 c_0 63)) ∧ IntKind.wrap .u8 (iOr .i64 128 (iAnd .i64 c_0 63)) < 256) <|
    some [u8 (IntKind.wrap .u8 (iOr .i64 224 (iShr .i64 c_0 12))), u8 (IntKind.wrap .u8 (iOr .i64 128 (iAnd .i64 (iShr .i64 c_0 6) 63))), u8 (IntKind.wrap .u8 (iOr .i64 128 (iAnd .i64 c_0 63)))]
   else
    ck ((0 : Int) ≤ 18) <|
    ck ((0 : Int) ≤ 12) <|
    ck ((0 : Int) ≤ 6) <|
    ck ((0 : Int) ≤ IntKind.wrap .u8 (iOr .i64 240 (iShr .i64 c_0 18)) ∧ IntKind.wrap .u8 (iOr .i64 240 (iShr .i64 c_0 18)) < 256) <|
    ck ((0 : Int) ≤ IntKind.wrap .u8 (iOr .i64 128 (iAnd .i64 (iShr .i64 c_0 12) 63)) ∧ IntKind.wrap .u8 (iOr .i64 128 (iAnd .i64 (iShr .i64 c_0 12) 63)) < 256) <|
    ck ((0 : Int) ≤ IntKind.wrap .u8 (iOr .i64 128 (iAnd .i64 (iShr .i64 c_0 6) 63)) ∧ IntKind.wrap .u8 (iOr .i64 128 (iAnd .i64 (iShr .i64 c_0 6) 63)) < 256) <|
    ck ((0 : Int) ≤ IntKind.wrap .u8 (iOr .i64 128 (iAnd .i64 c_0 63)) ∧ IntKind.wrap .u8 (iOr .i64 128 (iAnd .i64 c_0 63)) < 256) <|
    some [u8 (IntKind.wrap .u8 (iOr .i64 240 (iShr .i64 c_0 18))), u8 (IntKind.wrap .u8 (iOr .i64 128 (iAnd .i64 (iShr .i64 c_0 12) 63))), u8 (IntKind.wrap .u8 (iOr .i64 128 (iAnd .i64 (iShr .i64 c_0 6) 63))), u8 (IntKind.wrap .u8 (iOr .i64 128 (iAnd .i64 c_0 63)))]

set_option maxHeartbeats 4000000 in
theorem ref02_Encode_ok (c_0 : Int) (r : Bytes) (h0 : ref02_Encode c_0 = some r) : PCalls Tryz.prog 144 [eI c_0] (· = .p (eS r)) := by
 unfold ref02_Encode at h0
 refine pbodyA good Tryz.func144 rfl rfl rfl fun w0 => mP (fun v : Bytes => .p (eS v)) ?_
 refine nx 10 rfl (fD [4] h0 rfl (fun c1 h0 => ?_) fun c1 h0 => ?_)
 ·refine nx 5 rfl (cc' h0 fun hk2 h0 => ?_)
  refine mO rfl (op_bslice eU [u8 (IntKind.wrap .u8 (c_0))] rfl rfl rfl rfl rfl rfl rfl rfl rfl rfl rfl rfl rfl (congr (congrArg List.cons (u8_of hk2)) rfl) ?_)
  refine mO rfl (op_convBS [u8 (IntKind.wrap .u8 (c_0))] rfl rfl rfl rfl rfl rfl rfl rfl rfl rfl rfl ?_)
  exact nx 3 rfl (mQ (oi h0) rfl (sr))
 refine nx 8 rfl (fD [10] h0 rfl (fun c3 h0 => ?_) fun c3 h0 => ?_)
 ·refine nx 4 rfl (cc' h0 fun hk4 h0 => ?_)
  refine mO rfl (ok_sh rfl rfl rfl rfl rfl rfl hk4 ?_)
  refine nx 6 rfl (cc' h0 fun hk6 h0 => ?_)
  refine cc' h0 fun hk5 h0 => mO rfl (op_bslice eU [u8 (IntKind.wrap .u8 (iOr .i64 192 (iShr .i64 c_0 6))), u8 (IntKind.wrap .u8 (iOr .i64 128 (iAnd .i64 c_0 63)))] rfl rfl rfl rfl rfl rfl rfl rfl rfl rfl rfl rfl rfl (congr (congrArg List.cons (u8_of hk6)) (congr (congrArg List.cons (u8_of hk5)) rfl)) ?_)
  refine mO rfl (op_convBS [u8 (IntKind.wrap .u8 (iOr .i64 192 (iShr .i64 c_0 6))), u8 (IntKind.wrap .u8 (iOr .i64 128 (iAnd .i64 c_0 63)))] rfl rfl rfl rfl rfl rfl rfl rfl rfl rfl rfl ?_)
  exact nx 3 rfl (mQ (oi h0) rfl (sr))
 refine nx 8 rfl (fD [22] h0 rfl (fun c7 h0 => ?_) fun c7 h0 => ?_)
 ·refine nx 4 rfl (cc' h0 fun hk8 h0 => ?_)
  refine mO rfl (ok_sh rfl rfl rfl rfl rfl rfl hk8 ?_)
  refine nx 3 rfl (cc' h0 fun hk9 h0 => ?_)
  refine mO rfl (ok_sh rfl rfl rfl rfl rfl rfl hk9 ?_)
  refine nx 7 rfl (cc' h0 fun hk12 h0 => ?_)
  refine cc' h0 fun hk11 h0 => cc' h0 fun hk10 h0 => mO rfl (op_bslice eU [u8 (IntKind.wrap .u8 (iOr .i64 224 (iShr .i64 c_0 12))), u8 (IntKind.wrap .u8 (iOr .i64 128 (iAnd .i64 (iShr .i64 c_0 6) 63))), u8 (IntKind.wrap .u8 (iOr .i64 128 (iAnd .i64 c_0 63)))] rfl rfl rfl rfl rfl rfl rfl rfl rfl rfl rfl rfl rfl (congr (congrArg List.cons (u8_of hk12)) (congr (congrArg List.cons (u8_of hk11)) (congr (congrArg List.cons (u8_of hk10)) rfl))) ?_)
  refine mO rfl (op_convBS [u8 (IntKind.wrap .u8 (iOr .i64 224 (iShr .i64 c_0 12))), u8 (IntKind.wrap .u8 (iOr .i64 128 (iAnd .i64 (iShr .i64 c_0 6) 63))), u8 (IntKind.wrap .u8 (iOr .i64 128 (iAnd .i64 c_0 63)))] rfl rfl rfl rfl rfl rfl rfl rfl rfl rfl rfl ?_)
  exact nx 3 rfl (mQ (oi h0) rfl (sr))
 refine nx 5 rfl (cc' h0 fun hk13 h0 => ?_)
 refine mO rfl (ok_sh rfl rfl rfl rfl rfl rfl hk13 ?_)
 refine nx 3 rfl (cc' h0 fun hk14 h0 => ?_)
 refine mO rfl (ok_sh rfl rfl rfl rfl rfl rfl hk14 ?_)
 refine nx 4 rfl (cc' h0 fun hk15 h0 => ?_)
 refine mO rfl (ok_sh rfl rfl rfl rfl rfl rfl hk15 ?_)
 refine nx 7 rfl (cc' h0 fun hk19 h0 => ?_)
 refine cc' h0 fun hk18 h0 => cc' h0 fun hk17 h0 => cc' h0 fun hk16 h0 => mO rfl (op_bslice eU [u8 (IntKind.wrap .u8 (iOr .i64 240 (iShr .i64 c_0 18))), u8 (IntKind.wrap .u8 (iOr .i64 128 (iAnd .i64 (iShr .i64 c_0 12) 63))), u8 (IntKind.wrap .u8 (iOr .i64 128 (iAnd .i64 (iShr .i64 c_0 6) 63))), u8 (IntKind.wrap .u8 (iOr .i64 128 (iAnd .i64 c_0 63)))] rfl rfl rfl rfl rfl rfl rfl rfl rfl rfl rfl rfl rfl (congr (congrArg List.cons (u8_of hk19)) (congr (congrArg List.cons (u8_of hk18)) (congr (congrArg List.cons (u8_of hk17)) (congr (congrArg List.cons (u8_of hk16)) rfl)))) ?_)
 refine mO rfl (op_convBS [u8 (IntKind.wrap .u8 (iOr .i64 240 (iShr .i64 c_0 18))), u8 (IntKind.wrap .u8 (iOr .i64 128 (iAnd .i64 (iShr .i64 c_0 12) 63))), u8 (IntKind.wrap .u8 (iOr .i64 128 (iAnd .i64 (iShr .i64 c_0 6) 63))), u8 (IntKind.wrap .u8 (iOr .i64 128 (iAnd .i64 c_0 63)))] rfl rfl rfl rfl rfl rfl rfl rfl rfl rfl rfl ?_)
 refine nx 2 rfl (mG (gE (t := ⟨[(2, .p (eS [u8 (IntKind.wrap .u8 (iOr .i64 240 (iShr .i64 c_0 18))), u8 (IntKind.wrap .u8 (iOr .i64 128 (iAnd .i64 (iShr .i64 c_0 12) 63))), u8 (IntKind.wrap .u8 (iOr .i64 128 (iAnd .i64 (iShr .i64 c_0 6) 63))), u8 (IntKind.wrap .u8 (iOr .i64 128 (iAnd .i64 c_0 63)))]))], []⟩) rfl rfl) ?_)
 exact nx 1 rfl (mQ (oi h0) rfl (sr))

def ref02_Escaped (n : Nat) (s_0 : Bytes) (i_1 : Int) : Option (Bytes × Int × Int) :=
 ck (inR (i_1 + 1)) <|
 if (s_0.length : Int) ≤ i_1 + 1 then
  some (([] : Bytes), 0, 40)
 else
  ck (inR (i_1 + 1)) <|
  ck ((0 : Int) ≤ i_1 + 1 ∧ i_1 + 1 < (s_0.length : Int)) <|
  if byt s_0 (i_1 + 1) = 110 then
   ck (inR (i_1 + 2)) <|
   some (([10] : Bytes), i_1 + 2, 0)
  else
   if byt s_0 (i_1 + 1) = 114 then
    ck (inR (i_1 + 2)) <|
    some (([13] : Bytes), i_1 + 2, 0)
   else
    if byt s_0 (i_1 + 1) = 116 then
     ck (inR (i_1 + 2)) <|
     some (([9] : Bytes), i_1 + 2, 0)
    else
     (
       if byt s_0 (i_1 + 1) = 34 then
        some true
       else
        some (decide (byt s_0 (i_1 + 1) = 92))
      : Option Bool).bind fun t12 =>
     if t12 = true then
      ck (inR (i_1 + 1)) <|
      ck (inR (i_1 + 2)) <|
      ck ((0 : Int) ≤ i_1 + 1 ∧ i_1 + 1 ≤ i_1 + 2 ∧ i_1 + 2 ≤ (s_0.length : Int)) <|
      ck (inR (i_1 + 2)) <|
      some (sub s_0 (i_1 + 1) (i_1 + 2), i_1 + 2, 0)
     else
      if byt s_0 (i_1 + 1) = 117 then
       ck (inR (i_1 + 2)) <|
       if (s_0.length : Int) ≤ i_1 + 2 then
        some (([] : Bytes), 0, 40)
       else
        ck (inR (i_1 + 2)) <|
        ck ((0 : Int) ≤ i_1 + 2 ∧ i_1 + 2 < (s_0.length : Int)) <|
        if byt s_0 (i_1 + 2) = 123 then
         ck (inR (i_1 + 3)) <|
         (ref02_point n s_0 (i_1 + 3)).bind fun r25 =>
         if r25.2.2 = 0 then
          (ref02_Encode r25.1).bind fun r28 =>
          some (r28, r25.2.1, 0)
         else
          some (([] : Bytes), 0, r25.2.2)
        else
         some (([] : Bytes), 0, 2)
      else
       some (([] : Bytes), 0, 2)

set_option maxHeartbeats 4000000 in
theorem ref02_Escaped_ok (n : Nat) (s_0 : Bytes) (i_1 : Int) (r : Bytes × Int × Int) (h0 : ref02_Escaped n s_0 i_1 = some r) : PCalls Tryz.prog 136 [eS s_0, eI i_1] (· = .tuple [.p (eS r.1), .p (eI r.2.1), .p (eI r.2.2)]) := by
 unfold ref02_Escaped at h0
 refine pbodyA good Tryz.func136 rfl rfl rfl fun w0 => mP (fun v : Bytes × Int × Int => .tuple [.p (eS v.1), .p (eI v.2.1), .p (eI v.2.2)]) ?_
 refine nx 10 rfl (oA h0 rfl rfl fun hk1 h0 => ?_)
 refine nx 1 rfl (oLs rfl ?_)
 refine nx 2 rfl (fD [14] h0 rfl (fun c2 h0 => ?_) fun c2 h0 => ?_)
 ·exact nx 8 rfl (mQ (oi h0) rfl (sub_tuple ⟨sr, sr, sr, trivial⟩))
 refine nx 7 rfl (oA h0 rfl rfl fun hk3 h0 => ?_)
 refine oI h0 rfl fun hk4 h0 => nx 7 rfl (fD [19, 20] h0 rfl (fun c5 h0 => ?_) fun c5 h0 => ?_)
 ·refine nx 4 rfl (oA h0 rfl rfl fun hk6 h0 => ?_)
  exact nx 5 rfl (mQ (oi h0) rfl (sub_tuple ⟨sr, sr, sr, trivial⟩))
 refine nx 6 rfl (fD [23, 24] h0 rfl (fun c7 h0 => ?_) fun c7 h0 => ?_)
 ·refine nx 4 rfl (oA h0 rfl rfl fun hk8 h0 => ?_)
  exact nx 5 rfl (mQ (oi h0) rfl (sub_tuple ⟨sr, sr, sr, trivial⟩))
 refine nx 6 rfl (fD [27, 28] h0 rfl (fun c9 h0 => ?_) fun c9 h0 => ?_)
 ·refine nx 4 rfl (oA h0 rfl rfl fun hk10 h0 => ?_)
  exact nx 5 rfl (mQ (oi h0) rfl (sub_tuple ⟨sr, sr, sr, trivial⟩))
 refine nx 2 rfl (bd h0 fun o31 h1 h0 => ?_)
 refine kN o31 (fun v32 => ⟨[(0, .p (eS s_0)), (1, .p (eI i_1)), (18, .p (eK .u8 (byt s_0 (i_1 + 1)))), (31, .p (eB v32))], []⟩) ?_ ?_
 ·refine nx 1 rfl (fB [31] h0 rfl (fun c13 h0 => ?_) fun c13 h0 => ?_)
  ·refine nx 5 rfl (oA h0 rfl rfl fun hk14 h0 => ?_)
   refine nx 1 rfl (oA h0 rfl rfl fun hk15 h0 => ?_)
   refine oP h0 rfl rfl rfl fun hk16 h0 => nx 1 rfl (oA h0 rfl rfl fun hk17 h0 => ?_)
   exact nx 5 rfl (mQ (oi h0) rfl (sub_tuple ⟨sr, sr, sr, trivial⟩))
  refine nx 6 rfl (fD [42, 43] h0 rfl (fun c18 h0 => ?_) fun c18 h0 => ?_)
  ·refine nx 5 rfl (oA h0 rfl rfl fun hk19 h0 => ?_)
   refine nx 1 rfl (oLs rfl ?_)
   refine nx 2 rfl (fD [48] h0 rfl (fun c20 h0 => ?_) fun c20 h0 => ?_)
   ·exact nx 8 rfl (mQ (oi h0) rfl (sub_tuple ⟨sr, sr, sr, trivial⟩))
   refine nx 7 rfl (oA h0 rfl rfl fun hk21 h0 => ?_)
   refine oI h0 rfl fun hk22 h0 => nx 2 rfl (fN [53] h0 rfl (fun c23 h0 => ?_) fun c23 h0 => ?_)
   ·refine nx 6 rfl (oA h0 rfl rfl fun hk24 h0 => ?_)
    refine bd h0 fun r25 e26 h0 => oK (ref02_point_ok _ s_0 (i_1 + 3) _ e26) rfl ⟨sr, sr, trivial⟩ Tryz.call143 rfl (nx 14 rfl ?_)
    refine mG (gE (t := ⟨[(7, .p (eI r25.1)), (8, .p (eI r25.2.1)), (9, .p (eI r25.2.2)), (63, .p (eB (!decide (r25.2.2 = 0))))], []⟩) rfl rfl) (fN [63] h0 rfl (fun c27 h0 => ?_) fun c27 h0 => ?_)
    ·refine nx 5 rfl (bd h0 fun r28 e29 h0 => ?_)
     refine oK (ref02_Encode_ok r25.1 _ e29) rfl ⟨sr, trivial⟩ Tryz.call144 rfl (nx 6 rfl ?_)
     exact mQ (oi h0) rfl (sub_tuple ⟨sr, sr, sr, trivial⟩)
    exact nx 9 rfl (mQ (oi h0) rfl (sub_tuple ⟨sr, sr, sr, trivial⟩))
   exact nx 8 rfl (mQ (oi h0) rfl (sub_tuple ⟨sr, sr, sr, trivial⟩))
  exact nx 9 rfl (mQ (oi h0) rfl (sub_tuple ⟨sr, sr, sr, trivial⟩))
 refine nx 5 rfl (fD [31, 32] h1 rfl (fun c11 h1 => ?_) fun c11 h1 => ?_)
 ·exact nx 2 rfl (eX _ (oi h1).symm (gE rfl rfl))
 exact nx 5 rfl (eX _ (oi h1).symm (gE rfl rfl))

def ref02_One (n : Nat) (s_0 : Bytes) (i_1 : Int) : Option (Bytes × Int × Int) :=
 ck ((0 : Int) ≤ i_1 ∧ i_1 < (s_0.length : Int)) <|
 if byt s_0 i_1 = 92 then
  (ref02_Escaped n s_0 i_1).bind fun r3 =>
  some (r3.1, r3.2.1, r3.2.2)
 else
  (ref02_Decode s_0 i_1).bind fun r5 =>
  (
    if r5.2 = 0 then
     some true
    else
     ck ((0 : Int) ≤ i_1 ∧ i_1 < (s_0.length : Int)) <|
     if byt s_0 i_1 < 32 then
      some true
     else
      ck ((0 : Int) ≤ i_1 ∧ i_1 < (s_0.length : Int)) <|
      some (decide (byt s_0 i_1 = 127))
   : Option Bool).bind fun t11 =>
  if t11 = true then
   some (([] : Bytes), 0, 2)
  else
   ck (inR (i_1 + r5.2)) <|
   ck ((0 : Int) ≤ i_1 ∧ i_1 ≤ i_1 + r5.2 ∧ i_1 + r5.2 ≤ (s_0.length : Int)) <|
   ck (inR (i_1 + r5.2)) <|
   some (sub s_0 i_1 (i_1 + r5.2), i_1 + r5.2, 0)

set_option maxHeartbeats 4000000 in
theorem ref02_One_ok (n : Nat) (s_0 : Bytes) (i_1 : Int) (r : Bytes × Int × Int) (h0 : ref02_One n s_0 i_1 = some r) : PCalls Tryz.prog 122 [eS s_0, eI i_1] (· = .tuple [.p (eS r.1), .p (eI r.2.1), .p (eI r.2.2)]) := by
 unfold ref02_One at h0
 refine pbodyA good Tryz.func122 rfl rfl rfl fun w0 => mP (fun v : Bytes × Int × Int => .tuple [.p (eS v.1), .p (eI v.2.1), .p (eI v.2.2)]) ?_
 refine nx 11 rfl (oI h0 rfl fun hk1 h0 => ?_)
 refine nx 2 rfl (fD [12] h0 rfl (fun c2 h0 => ?_) fun c2 h0 => ?_)
 ·refine nx 5 rfl (bd h0 fun r3 e4 h0 => ?_)
  refine oK (ref02_Escaped_ok _ s_0 i_1 _ e4) rfl ⟨sr, sr, trivial⟩ Tryz.call136 rfl (nx 8 rfl ?_)
  exact mQ (oi h0) rfl (sub_tuple ⟨sr, sr, sr, trivial⟩)
 refine nx 6 rfl (bd h0 fun r5 e6 h0 => ?_)
 refine oK (ref02_Decode_ok s_0 i_1 _ e6) rfl ⟨sr, sr, trivial⟩ Tryz.call84 rfl (nx 8 rfl ?_)
 refine bd h0 fun o17 h1 h0 => kN o17 (fun v18 => ⟨[(0, .p (eS s_0)), (1, .p (eI i_1)), (8, .p (eI r5.2)), (38, .p (eB v18))], []⟩) ?_ ?_
 ·refine nx 1 rfl (fB [38] h0 rfl (fun c12 h0 => ?_) fun c12 h0 => ?_)
  ·exact nx 8 rfl (mQ (oi h0) rfl (sub_tuple ⟨sr, sr, sr, trivial⟩))
  refine nx 8 rfl (oA h0 rfl rfl fun hk13 h0 => ?_)
  refine oP h0 rfl rfl rfl fun hk14 h0 => nx 2 rfl (oA h0 rfl rfl fun hk15 h0 => ?_)
  exact nx 5 rfl (mQ (oi h0) rfl (sub_tuple ⟨sr, sr, sr, trivial⟩))
 refine nx 4 rfl (fD [26, 27] h1 rfl (fun c7 h1 => ?_) fun c7 h1 => ?_)
 ·exact nx 12 rfl (eX _ (oi h1).symm (gE rfl rfl))
 refine nx 2 rfl (oI h1 rfl fun hk8 h1 => ?_)
 refine nx 3 rfl (fD [31, 32, 33] h1 rfl (fun c9 h1 => ?_) fun c9 h1 => ?_)
 ·exact nx 6 rfl (eX _ (oi h1).symm (gE rfl rfl))
 refine nx 2 rfl (oI h1 rfl fun hk10 h1 => ?_)
 exact nx 3 rfl (eX _ (oi h1).symm (gE rfl rfl))

def ref02_Unquote_l1 (n : Nat) (s_0 : Bytes) : Nat → Bytes → Int → Option (Unit ⊕ (Bytes × Int × Int))
 | 0, _, _ => none
 | m + 1, out15, i16 =>
 if i16 < (s_0.length : Int) then
  ck ((0 : Int) ≤ i16 ∧ i16 < (s_0.length : Int)) <|
  if byt s_0 i16 = 34 then
   if 4096 < (out15.length : Int) then
    some (.inr (([] : Bytes), 0, 3))
   else
    ck (inR (i16 + 1)) <|
    some (.inr (out15, i16 + 1, 0))
  else
   (ref02_One n s_0 i16).bind fun r22 =>
   if r22.2.2 = 0 then
    ck (out15.length + r22.1.length ≤ 9223372036854775807) <|
    ref02_Unquote_l1 n s_0 m (out15 ++ r22.1) r22.2.1
   else
    some (.inr (([] : Bytes), 0, r22.2.2))
 else
  some (.inl ())

def ref02_Unquote (n : Nat) (s_0 : Bytes) : Option (Bytes × Int × Int) :=
 if (s_0.length : Int) = 0 then
  some (([] : Bytes), 0, 40)
 else
  ck ((0 : Int) ≤ 0 ∧ 0 < (s_0.length : Int)) <|
  if byt s_0 0 = 34 then
   jn (ref02_Unquote_l1 n s_0 n ([] : Bytes) 1) fun q28 =>
   some (([] : Bytes), 0, 40)
  else
   some (([] : Bytes), 0, 2)

set_option maxHeartbeats 4000000 in
theorem ref02_Unquote_ok (n : Nat) (s_0 : Bytes) (r : Bytes × Int × Int) (h0 : ref02_Unquote n s_0 = some r) : PCalls Tryz.prog 103 [eS s_0] (· = .tuple [.p (eS r.1), .p (eI r.2.1), .p (eI r.2.2)]) := by
 unfold ref02_Unquote at h0
 refine pbodyA good Tryz.func103 rfl rfl rfl fun w0 => mP (fun v : Bytes × Int × Int => .tuple [.p (eS v.1), .p (eI v.2.1), .p (eI v.2.2)]) ?_
 refine nx 10 rfl (oLs rfl ?_)
 refine nx 2 rfl (fD [12] h0 rfl (fun c1 h0 => ?_) fun c1 h0 => ?_)
 ·exact nx 8 rfl (mQ (oi h0) rfl (sub_tuple ⟨sr, sr, sr, trivial⟩))
 refine nx 6 rfl (oI h0 rfl fun hk2 h0 => ?_)
 refine nx 2 rfl (fN [15] h0 rfl (fun c3 h0 => ?_) fun c3 h0 => ?_)
 ·refine nx 12 rfl ?_
  obtain ⟨o29, h1, hL0, hR0⟩ := jn_cut h0
  refine kEx 0 (fun v30 : Unit => o29 = .inl v30) (fun v30 => ⟨[], []⟩) (fun v30 hv => ?_) ?_
  ·have h0 := hL0 _ hv
   exact nx 8 rfl (mQ (oi h0) rfl (sub_tuple ⟨sr, sr, sr, trivial⟩))
  refine lG (fun (q31 : Bytes × Int) => ⟨[(0, .p (eS s_0)), (5, .p (eS q31.1)), (6, .p (eI q31.2))], []⟩) (fun m (q31 : Bytes × Int) => ref02_Unquote_l1 n s_0 m q31.1 q31.2) (fun _ => rfl) (([] : Bytes), 1) h1 (gE rfl rfl) ?_
  rintro m ⟨out15, i16⟩ h1
  replace h1 : ref02_Unquote_l1 n s_0 (m + 1) out15 i16 = some o29 := h1
  rw [ref02_Unquote_l1] at h1
  refine nx 5 rfl (oLs rfl ?_)
  refine nx 2 rfl (fD [19] h1 rfl (fun c17 h1 => ?_) fun c17 h1 => ?_)
  ·refine nx 8 rfl (oI h1 rfl fun hk18 h1 => ?_)
   refine nx 2 rfl (fD [23] h1 rfl (fun c19 h1 => ?_) fun c19 h1 => ?_)
   ·refine nx 5 rfl (oLs rfl ?_)
    refine nx 2 rfl (fD [26] h1 rfl (fun c20 h1 => ?_) fun c20 h1 => ?_)
    ·exact nx 8 rfl (mQ (hR0 _ (oi h1).symm) rfl (sub_tuple ⟨sr, sr, sr, trivial⟩))
    refine nx 6 rfl (oA h1 rfl rfl fun hk21 h1 => ?_)
    exact nx 5 rfl (mQ (hR0 _ (oi h1).symm) rfl (sub_tuple ⟨sr, sr, sr, trivial⟩))
   refine nx 6 rfl (bd h1 fun r22 e23 h1 => ?_)
   refine oK (ref02_One_ok _ s_0 i16 _ e23) rfl ⟨sr, sr, trivial⟩ Tryz.call122 rfl (nx 14 rfl ?_)
   refine fN [38] h1 rfl (fun c24 h1 => ?_) fun c24 h1 => ?_
   ·refine nx 6 rfl (oC h1 rfl fun hk25 h1 => ?_)
    exact nx 6 rfl (eX (out15 ++ r22.1, r22.2.1) h1 (gE rfl rfl))
   exact nx 9 rfl (mQ (hR0 _ (oi h1).symm) rfl (sub_tuple ⟨sr, sr, sr, trivial⟩))
  exact nx 2 rfl (eXi _ (oi h1).symm (gE rfl rfl))
 exact nx 8 rfl (mQ (oi h0) rfl (sub_tuple ⟨sr, sr, sr, trivial⟩))

def ref01_digits_l1 (s_0 : Bytes) : Nat → Int → Option (Unit ⊕ Bool)
 | 0, _ => none
 | m + 1, i9 =>
 if i9 < (s_0.length : Int) then
  (
    ck ((0 : Int) ≤ i9 ∧ i9 < (s_0.length : Int)) <|
    if byt s_0 i9 < 48 then
     some true
    else
     ck ((0 : Int) ≤ i9 ∧ i9 < (s_0.length : Int)) <|
     some (decide (57 < byt s_0 i9))
   : Option Bool).bind fun t14 =>
  if t14 = true then
   some (.inr false)
  else
   ck (inR (i9 + 1)) <|
   ref01_digits_l1 s_0 m (i9 + 1)
 else
  some (.inl ())

def ref01_digits (n : Nat) (s_0 : Bytes) : Option Bool :=
 jn (ref01_digits_l1 s_0 n 0) fun q22 =>
 (
   if s_0 = ([48] : Bytes) then
    some true
   else
    if s_0 = ([] : Bytes) then
     some false
    else
     ck ((0 : Int) ≤ 0 ∧ 0 < (s_0.length : Int)) <|
     some (!decide (byt s_0 0 = 48))
  : Option Bool).bind fun t21 =>
 some t21

set_option maxHeartbeats 4000000 in
theorem ref01_digits_ok (n : Nat) (s_0 : Bytes) (r : Bool) (h0 : ref01_digits n s_0 = some r) : PCalls Tryz.prog 123 [eS s_0] (· = .p (eB r)) := by
 unfold ref01_digits at h0
 refine pbodyA good Tryz.func123 rfl rfl rfl fun w0 => mP (fun v : Bool => .p (eB v)) ?_
 refine nx 10 rfl ?_
 obtain ⟨o25, h1, hL0, hR0⟩ := jn_cut h0
 refine kEx 0 (fun v26 : Unit => o25 = .inl v26) (fun v26 => ⟨[(0, .p (eS s_0))], []⟩) (fun v26 hv => ?_) ?_
 ·have h0 := hL0 _ hv
  refine nx 2 rfl (bd h0 fun o27 h1 h0 => ?_)
  refine kN o27 (fun v28 => ⟨[(2, .p (eB v28))], []⟩) ?_ ?_
  ·exact nx 2 rfl (mQ (oi h0) rfl (sr))
  refine nx 2 rfl (oS rfl rfl ?_)
  refine nx 1 rfl (fD [21, 22] h1 rfl (fun c18 h1 => ?_) fun c18 h1 => ?_)
  ·exact nx 10 rfl (eX _ (oi h1).symm (gE rfl rfl))
  refine nx 1 rfl (oS rfl rfl ?_)
  refine nx 1 rfl (fN [24, 25] h1 rfl (fun c19 h1 => ?_) fun c19 h1 => ?_)
  ·exact nx 7 rfl (eX _ (oi h1).symm (gE rfl rfl))
  refine nx 1 rfl (oI h1 rfl fun hk20 h1 => ?_)
  exact nx 5 rfl (eX _ (oi h1).symm (gE rfl rfl))
 refine lG (fun (q29 : Int) => ⟨[(0, .p (eS s_0)), (3, .p (eI q29))], []⟩) (fun m (q29 : Int) => ref01_digits_l1 s_0 m q29) (fun _ => rfl) 0 h1 (gE rfl rfl) ?_
 rintro m i9 h1
 replace h1 : ref01_digits_l1 s_0 (m + 1) i9 = some o25 := h1
 rw [ref01_digits_l1] at h1
 refine nx 5 rfl (oLs rfl ?_)
 refine nx 2 rfl (fD [7] h1 rfl (fun c10 h1 => ?_) fun c10 h1 => ?_)
 ·refine nx 5 rfl (bd h1 fun o30 h2 h1 => ?_)
  refine kN o30 (fun v31 => ⟨[(0, .p (eS s_0)), (3, .p (eI i9)), (19, .p (eB v31))], []⟩) ?_ ?_
  ·refine nx 1 rfl (fB [19] h1 rfl (fun c15 h1 => ?_) fun c15 h1 => ?_)
   ·exact nx 6 rfl (mQ (hR0 _ (oi h1).symm) rfl (sr))
   refine nx 4 rfl (oA h1 rfl rfl fun hk16 h1 => ?_)
   exact nx 2 rfl (eX (i9 + 1) h1 (gE rfl rfl))
  refine nx 3 rfl (oI h2 rfl fun hk11 h2 => ?_)
  refine nx 2 rfl (fD [13, 14] h2 rfl (fun c12 h2 => ?_) fun c12 h2 => ?_)
  ·exact nx 6 rfl (eX _ (oi h2).symm (gE rfl rfl))
  refine nx 2 rfl (oI h2 rfl fun hk13 h2 => ?_)
  exact nx 3 rfl (eX _ (oi h2).symm (gE rfl rfl))
 exact nx 2 rfl (eXi _ (oi h1).symm (gE rfl rfl))

def ref01_Valid (n_0 : Int) : Option Bool :=
 (
   if (-9007199254740992) ≤ n_0 then
    some (decide (n_0 ≤ 9007199254740992))
   else
    some false
  : Option Bool).bind fun t2 =>
 some t2

set_option maxHeartbeats 4000000 in
theorem ref01_Valid_ok (n_0 : Int) (r : Bool) (h0 : ref01_Valid n_0 = some r) : PCalls Tryz.prog 124 [eI n_0] (· = .p (eB r)) := by
 unfold ref01_Valid at h0
 refine pbodyA good Tryz.func124 rfl rfl rfl fun w0 => mP (fun v : Bool => .p (eB v)) ?_
 refine nx 5 rfl (bd h0 fun o4 h1 h0 => ?_)
 refine kN o4 (fun v5 => ⟨[(2, .p (eB v5))], []⟩) ?_ ?_
 ·exact nx 2 rfl (mQ (oi h0) rfl (sr))
 refine nx 4 rfl (fD [4, 5] h1 rfl (fun c1 h1 => ?_) fun c1 h1 => ?_)
 ·exact nx 5 rfl (eX _ (oi h1).symm (gE rfl rfl))
 exact nx 5 rfl (eX _ (oi h1).symm (gE rfl rfl))

def ref01_Parse_l1 (t6 : Bytes) : Nat → Int → Int → Option Int
 | 0, _, _ => none
 | m + 1, n22, i23 =>
 if i23 < (t6.length : Int) then
  ck (inR (10 * n22)) <|
  ck ((0 : Int) ≤ i23 ∧ i23 < (t6.length : Int)) <|
  ck (inR (IntKind.wrap .u8 ((byt t6 i23) - 48))) <|
  ck (inR ((10 * n22) + (IntKind.wrap .u8 ((byt t6 i23) - 48)))) <|
  ck (inR (i23 + 1)) <|
  ref01_Parse_l1 t6 m ((10 * n22) + (IntKind.wrap .u8 ((byt t6 i23) - 48))) (i23 + 1)
 else
  some n22

def ref01_Parse (n : Nat) (s_0 : Bytes) : Option (Int × Int) :=
 (
   if 0 < (s_0.length : Int) then
    ck ((0 : Int) ≤ 0 ∧ 0 < (s_0.length : Int)) <|
    some (decide (byt s_0 0 = 45))
   else
    some false
  : Option Bool).bind fun minus3 =>
 (
   if minus3 = true then
    ck ((0 : Int) ≤ 1 ∧ 1 ≤ (s_0.length : Int) ∧ (s_0.length : Int) ≤ (s_0.length : Int)) <|
    some (sub s_0 1 (s_0.length : Int))
   else
    some s_0
  : Option Bytes).bind fun t6 =>
 (
   (ref01_digits n t6).bind fun r7 =>
   if (!r7) = true then
    some true
   else
    if minus3 = true then
     some (decide (t6 = ([48] : Bytes)))
    else
     some false
  : Option Bool).bind fun t11 =>
 if t11 = true then
  some (0, 2)
 else
  if 16 < (t6.length : Int) then
   some (0, 5)
  else
   (ref01_Parse_l1 t6 n 0 0).bind fun n32 =>
   (
     if minus3 = true then
      ck (inR (0 - n32)) <|
      some (0 - n32)
     else
      some n32
    : Option Int).bind fun n35 =>
   (ref01_Valid n35).bind fun r36 =>
   if (!r36) = true then
    some (0, 5)
   else
    some (n35, 0)

set_option maxHeartbeats 4000000 in
theorem ref01_Parse_ok (n : Nat) (s_0 : Bytes) (r : Int × Int) (h0 : ref01_Parse n s_0 = some r) : PCalls Tryz.prog 104 [eS s_0] (· = .tuple [.p (eI r.1), .p (eI r.2)]) := by
 unfold ref01_Parse at h0
 refine pbodyA good Tryz.func104 rfl rfl rfl fun w0 => mP (fun v : Int × Int => .tuple [.p (eI v.1), .p (eI v.2)]) ?_
 refine nx 6 rfl (bd h0 fun o44 h1 h0 => ?_)
 refine kN o44 (fun v45 => ⟨[(0, .p (eS s_0)), (4, .p (eB v45))], []⟩) ?_ ?_
 ·refine nx 7 rfl (bd h0 fun o46 h1 h0 => ?_)
  refine kN o46 (fun v47 => ⟨[(4, .p (eB o44)), (5, .p (eS v47))], []⟩) ?_ ?_
  ·refine nx 3 rfl (bd h0 fun o48 h1 h0 => ?_)
   refine kN o48 (fun v49 => ⟨[(4, .p (eB o44)), (5, .p (eS o46)), (29, .p (eB v49))], []⟩) ?_ ?_
   ·refine nx 1 rfl (fB [29] h0 rfl (fun c12 h0 => ?_) fun c12 h0 => ?_)
    ·exact nx 7 rfl (mQ (oi h0) rfl (sub_tuple ⟨sr, sr, trivial⟩))
    refine nx 6 rfl (oLs rfl ?_)
    refine nx 2 rfl (fD [32] h0 rfl (fun c13 h0 => ?_) fun c13 h0 => ?_)
    ·exact nx 7 rfl (mQ (oi h0) rfl (sub_tuple ⟨sr, sr, trivial⟩))
    refine nx 12 rfl (bd h0 fun o50 h1 h0 => ?_)
    refine kE 0 o50 (fun v51 => ⟨[(4, .p (eB o44)), (6, .p (eI v51))], []⟩) ?_ ?_
    ·refine nx 2 rfl (bd h0 fun o52 h1 h0 => ?_)
     refine kN o52 (fun v53 => ⟨[(6, .p (eI v53))], []⟩) ?_ ?_
     ·refine nx 5 rfl (bd h0 fun r36 e37 h0 => ?_)
      refine oK (ref01_Valid_ok o52 _ e37) rfl ⟨sr, trivial⟩ Tryz.call124 rfl (nx 2 rfl ?_)
      refine fB [52] h0 rfl (fun c38 h0 => ?_) fun c38 h0 => ?_
      ·exact nx 7 rfl (mQ (oi h0) rfl (sub_tuple ⟨sr, sr, trivial⟩))
      exact nx 9 rfl (mQ (oi h0) rfl (sub_tuple ⟨sr, sr, trivial⟩))
     refine nx 4 rfl (fB [4, 47] h1 rfl (fun c33 h1 => ?_) fun c33 h1 => ?_)
     ·refine nx 3 rfl (cc' h1 fun hk34 h1 => ?_)
      refine mO rfl (ok_neg rfl rfl rfl rfl hk34 ?_)
      exact nx 2 rfl (eX _ (oi h1).symm (gE rfl rfl))
     exact nx 2 rfl (eX _ (oi h1).symm (gE rfl rfl))
    refine lG (fun (q54 : Int × Int) => ⟨[(4, .p (eB o44)), (5, .p (eS o46)), (6, .p (eI q54.1)), (7, .p (eI q54.2))], []⟩) (fun m (q54 : Int × Int) => ref01_Parse_l1 o46 m q54.1 q54.2) (fun _ => rfl) (0, 0) h1 (gE rfl rfl) ?_
    rintro m ⟨n22, i23⟩ h1
    replace h1 : ref01_Parse_l1 o46 (m + 1) n22 i23 = some o50 := h1
    rw [ref01_Parse_l1] at h1
    refine nx 5 rfl (oLs rfl ?_)
    refine nx 2 rfl (fD [36] h1 rfl (fun c24 h1 => ?_) fun c24 h1 => ?_)
    ·refine nx 6 rfl (oA h1 rfl rfl fun hk25 h1 => ?_)
     refine nx 2 rfl (oI h1 rfl fun hk26 h1 => ?_)
     refine nx 1 rfl (cc' h1 fun hk27 h1 => ?_)
     refine mO rfl (ok_convInt rfl rfl rfl rfl rfl rfl rfl rfl (wrap_in hk27) ?_)
     refine oA h1 rfl rfl fun hk28 h1 => nx 4 rfl (oA h1 rfl rfl fun hk29 h1 => ?_)
     exact nx 2 rfl (eX ((10 * n22) + (IntKind.wrap .u8 ((byt o46 i23) - 48)), i23 + 1) h1 (gE rfl rfl))
    exact nx 2 rfl (eXi _ (oi h1).symm (gE rfl rfl))
   refine nx 2 rfl (bd h1 fun r7 e8 h1 => ?_)
   refine oK (ref01_digits_ok _ o46 _ e8) rfl ⟨sr, trivial⟩ Tryz.call123 rfl (nx 2 rfl ?_)
   refine fB [22, 23] h1 rfl (fun c9 h1 => ?_) fun c9 h1 => ?_
   ·exact nx 7 rfl (eX _ (oi h1).symm (gE rfl rfl))
   refine nx 2 rfl (fB [4, 24, 25] h1 rfl (fun c10 h1 => ?_) fun c10 h1 => ?_)
   ·refine nx 1 rfl (oS rfl rfl ?_)
    exact nx 3 rfl (eX _ (oi h1).symm (ghost_le (le_mk ⟨⟨_, rfl, sub_bool c10.symm⟩, er rfl, er rfl, trivial⟩ trivial)))
   exact nx 5 rfl (eX _ (oi h1).symm (ghost_le (le_mk ⟨⟨_, rfl, sub_bool c10.symm⟩, er rfl, er rfl, trivial⟩ trivial)))
  refine nx 4 rfl (fB [4, 17] h1 rfl (fun c4 h1 => ?_) fun c4 h1 => ?_)
  ·refine nx 3 rfl (oP h1 rfl rfl rfl fun hk5 h1 => ?_)
   exact nx 2 rfl (eX _ (oi h1).symm (ghost_le (le_mk ⟨⟨_, rfl, sub_bool c4.symm⟩, er rfl, trivial⟩ trivial)))
  exact nx 2 rfl (eX _ (oi h1).symm (ghost_le (le_mk ⟨⟨_, rfl, sub_bool c4.symm⟩, er rfl, trivial⟩ trivial)))
 refine nx 2 rfl (oLs rfl ?_)
 refine nx 2 rfl (fD [10, 11] h1 rfl (fun c1 h1 => ?_) fun c1 h1 => ?_)
 ·refine nx 1 rfl (oI h1 rfl fun hk2 h1 => ?_)
  exact nx 4 rfl (eX _ (oi h1).symm (gE rfl rfl))
 exact nx 6 rfl (eX _ (oi h1).symm (gE rfl rfl))

def ref06_key_l1 (s_0 : Bytes) : Nat → Int → Option Int
 | 0, _ => none
 | m + 1, n37 =>
 (
   if n37 < (s_0.length : Int) then
    ck ((0 : Int) ≤ n37 ∧ n37 < (s_0.length : Int)) <|
    if 48 ≤ byt s_0 n37 then
     ck ((0 : Int) ≤ n37 ∧ n37 < (s_0.length : Int)) <|
     some (decide (byt s_0 n37 ≤ 57))
    else
     some false
   else
    some false
  : Option Bool).bind fun t42 =>
 if t42 = true then
  ck (inR (n37 + 1)) <|
  ref06_key_l1 s_0 m (n37 + 1)
 else
  some n37

def ref06_key (n : Nat) (s_0 : Bytes) : Option (TKey × Bytes × Bool) :=
 (
   if s_0 = ([] : Bytes) then
    some true
   else
    ck ((0 : Int) ≤ 0 ∧ 0 < (s_0.length : Int)) <|
    some (!decide (byt s_0 0 = 91))
  : Option Bool).bind fun t3 =>
 if t3 = true then
  some ((TKey.mk 0 0 ([] : Bytes)), s_0, true)
 else
  (
    if 1 < (s_0.length : Int) then
     ck ((0 : Int) ≤ 1 ∧ 1 < (s_0.length : Int)) <|
     some (decide (byt s_0 1 = 34))
    else
     some false
   : Option Bool).bind fun t7 =>
  if t7 = true then
   ck ((0 : Int) ≤ 1 ∧ 1 ≤ (s_0.length : Int) ∧ (s_0.length : Int) ≤ (s_0.length : Int)) <|
   (ref02_Unquote n (sub s_0 1 (s_0.length : Int))).bind fun r10 =>
   (
     if r10.2.2 = 0 then
      ck (inR (r10.2.1 + 1)) <|
      if (s_0.length : Int) ≤ r10.2.1 + 1 then
       some true
      else
       ck (inR (r10.2.1 + 1)) <|
       ck ((0 : Int) ≤ r10.2.1 + 1 ∧ r10.2.1 + 1 < (s_0.length : Int)) <|
       if byt s_0 (r10.2.1 + 1) = 93 then
        ck (inR (r10.2.1 + 1)) <|
        ck ((0 : Int) ≤ 1 ∧ 1 ≤ r10.2.1 + 1 ∧ r10.2.1 + 1 ≤ (s_0.length : Int)) <|
        (ref02_Quote n r10.1).bind fun r20 =>
        if sub s_0 1 (r10.2.1 + 1) = r20 then
         (ref06_Key n (TKey.mk 2 0 r10.1)).bind fun r23 =>
         some (!r23)
        else
         some true
       else
        some true
     else
      some true
    : Option Bool).bind fun t25 =>
   if t25 = true then
    some ((TKey.mk 0 0 ([] : Bytes)), ([] : Bytes), false)
   else
    ck (inR (r10.2.1 + 2)) <|
    ck ((0 : Int) ≤ r10.2.1 + 2 ∧ r10.2.1 + 2 ≤ (s_0.length : Int) ∧ (s_0.length : Int) ≤ (s_0.length : Int)) <|
    some ((TKey.mk 2 0 r10.1), sub s_0 (r10.2.1 + 2) (s_0.length : Int), true)
  else
   (ref06_key_l1 s_0 n 1).bind fun n46 =>
   ck ((0 : Int) ≤ 1 ∧ 1 ≤ n46 ∧ n46 ≤ (s_0.length : Int)) <|
   (ref01_Parse n (sub s_0 1 n46)).bind fun r48 =>
   (
     if r48.2 = 0 then
      if (s_0.length : Int) ≤ n46 then
       some true
      else
       ck ((0 : Int) ≤ n46 ∧ n46 < (s_0.length : Int)) <|
       some (!decide (byt s_0 n46 = 93))
     else
      some true
    : Option Bool).bind fun t53 =>
   if t53 = true then
    some ((TKey.mk 0 0 ([] : Bytes)), ([] : Bytes), false)
   else
    ck (inR (n46 + 1)) <|
    ck ((0 : Int) ≤ n46 + 1 ∧ n46 + 1 ≤ (s_0.length : Int) ∧ (s_0.length : Int) ≤ (s_0.length : Int)) <|
    some ((TKey.mk 1 r48.1 ([] : Bytes)), sub s_0 (n46 + 1) (s_0.length : Int), true)

set_option maxHeartbeats 4000000 in
theorem ref06_key_ok (n : Nat) (s_0 : Bytes) (r : TKey × Bytes × Bool) (h0 : ref06_key n s_0 = some r) : PCalls Tryz.prog 78 [eS s_0] (· = .tuple [.p (.agg (TKey.cs r.1)), .p (eS r.2.1), .p (eB r.2.2)]) := by
 unfold ref06_key at h0
 refine pbodyA good Tryz.func78 rfl rfl rfl fun w0 => mP (fun v : TKey × Bytes × Bool => .tuple [.p (.agg (TKey.cs v.1)), .p (eS v.2.1), .p (eB v.2.2)]) ?_
 refine nx 8 rfl (bd h0 fun o63 h1 h0 => ?_)
 refine kN o63 (fun v64 => ⟨[(0, .p (eS s_0)), (2, .ptr 2 0), (18, .p (eB v64))], [(2, [.p (eI 0), .p (eI 0), .p (eS ([] : Bytes))])]⟩) ?_ ?_
 ·refine nx 1 rfl (fB [18] h0 rfl (fun c4 h0 => ?_) fun c4 h0 => ?_)
  ·exact nx 10 rfl (mQ (oi h0) rfl (sub_tuple ⟨sr, sr, sr, trivial⟩))
  refine nx 4 rfl (bd h0 fun o65 h1 h0 => ?_)
  refine kN o65 (fun v66 => ⟨[(0, .p (eS s_0)), (2, .ptr 2 0), (28, .p (eB v66))], [(2, [.p (eI 0), .p (eI 0), .p (eS ([] : Bytes))])]⟩) ?_ ?_
  ·refine nx 1 rfl (fB [28] h0 rfl (fun c8 h0 => ?_) fun c8 h0 => ?_)
   ·refine nx 4 rfl (oP h0 rfl rfl rfl fun hk9 h0 => ?_)
    refine bd h0 fun r10 e11 h0 => oK (ref02_Unquote_ok _ (sub s_0 1 (s_0.length : Int)) _ e11) rfl ⟨sr, trivial⟩ Tryz.call103 rfl (nx 17 rfl ?_)
    refine bd h0 fun o67 h1 h0 => kN o67 (fun v68 => ⟨[(0, .p (eS s_0)), (2, .ptr 2 0), (6, .p (eI r10.2.1)), (8, .ptr 8 0), (67, .p (eB v68))], [(2, [.p (eI 0), .p (eI 0), .p (eS ([] : Bytes))]), (8, [.p (eI 2), .p (eI 0), .p (eS r10.1)])]⟩) ?_ ?_
    ·refine nx 1 rfl (fB [67] h0 rfl (fun c26 h0 => ?_) fun c26 h0 => ?_)
     ·exact nx 9 rfl (mQ (oi h0) rfl (sub_tuple ⟨sr, sr, sr, trivial⟩))
     refine nx 3 rfl (cc' h0 fun hk27 h0 => ?_)
     refine cc' h0 fun hk28 h0 => mG (gE (t := ⟨[(0, .p (eS s_0)), (2, .ptr 2 0), (6, .p (eI r10.2.1)), (8, .ptr 8 0)], [(2, [.p (eI 0), .p (eI 0), .p (eS ([] : Bytes))]), (8, [.p (eI 2), .p (eI 0), .p (eS r10.1)])]⟩) rfl rfl) (mS ⟨1, [5], (fun _ => none), (fun _ => [(0, .p (eS s_0)), (2, .ptr 2 0), (6, .p (eI r10.2.1)), (8, .ptr 8 0)]), (by2 ([(2, [.p (eI 0), .p (eI 0), .p (eS ([] : Bytes))]), (8, [.p (eI 2), .p (eI 0), .p (eS r10.1)])]) ([(2, [.p (eI 2), .p (eI 0), .p (eS r10.1)]), (2, [.p (eI 0), .p (eI 0), .p (eS ([] : Bytes))]), (8, [.p (eI 2), .p (eI 0), .p (eS r10.1)])]))⟩ rfl rfl rfl ⟨rfl, rfl, rfl, rfl, trivial⟩ (lt1 ⟨rfl, rfl, rfl, rfl, trivial⟩) rfl rfl rfl rfl ?_)
     refine ds_pure (fun _ => .p (.agg [eI 2, eI 0, eS r10.1])) rfl rfl rfl (all2 rfl (fun _ => rfl)) (lt1 rfl) (stg_no rfl (stg_yes [(8, _)] ⟨.inl rfl, trivial⟩ (fun sl hsl K hK => one_op rfl (ok_loadPA rfl rfl rfl rfl rfl (hsl _ _ rfl) rfl rfl rfl hK)) stg_nil)) (ds_pure (fun _ => .p (eS s_0)) rfl rfl rfl (all2 rfl (fun _ => rfl)) (lt1 rfl) (stg_yes [(0, _)] ⟨.inl rfl, trivial⟩ (fun sl hsl K hK => one_op rfl (ok_move rfl rfl rfl (hsl _ _ rfl) hK)) (stg_yes [(0, _)] ⟨.inl rfl, trivial⟩ (fun sl hsl K hK => one_op rfl (ok_move rfl rfl rfl (hsl _ _ rfl) hK)) stg_nil)) ?_)
     refine ds_pure (fun _ => .p (eI r10.2.1)) rfl rfl rfl (all2 rfl (fun _ => rfl)) (lt1 rfl) (stg_yes [(6, _)] ⟨.inl rfl, trivial⟩ (fun sl hsl K hK => one_op rfl (ok_move rfl rfl rfl (hsl _ _ rfl) hK)) (stg_yes [(6, _)] ⟨.inl rfl, trivial⟩ (fun sl hsl K hK => one_op rfl (ok_move rfl rfl rfl (hsl _ _ rfl) hK)) stg_nil)) (ds_pure (fun _ => .p (eI (r10.2.1 + 2))) rfl rfl rfl (all2 rfl (fun _ => rfl)) (lt1 rfl) (stg_yes [(71, _)] ⟨.inr ⟨2, _, rfl, rfl, rfl⟩, trivial⟩ (fun sl hsl K hK => one_op rfl (ok_ar rfl rfl rfl (hsl _ _ rfl) rfl rfl hk27 hK)) (stg_yes [(71, _)] ⟨.inr ⟨2, _, rfl, rfl, rfl⟩, trivial⟩ (fun sl hsl K hK => one_op rfl (ok_ar rfl rfl rfl (hsl _ _ rfl) rfl rfl hk27 hK)) stg_nil)) ?_)
     refine ds_pure (fun _ => .p (eS (sub s_0 (r10.2.1 + 2) (s_0.length : Int)))) rfl rfl rfl (all2 rfl (fun _ => rfl)) (lt1 rfl) (stg_yes [(70, _), (72, _)] ⟨.inr ⟨1, _, rfl, rfl, rfl⟩, .inr ⟨3, _, rfl, rfl, rfl⟩, trivial⟩ (fun sl hsl K hK => one_op rfl (op_sliceS (a := s_0) (l := r10.2.1 + 2) (h := (s_0.length : Int)) rfl rfl rfl rfl rfl (hsl _ _ rfl) (lo_some (hsl _ _ rfl)) rfl hk28 hK)) (stg_yes [(70, _), (72, _)] ⟨.inr ⟨1, _, rfl, rfl, rfl⟩, .inr ⟨3, _, rfl, rfl, rfl⟩, trivial⟩ (fun sl hsl K hK => one_op rfl (op_sliceS (a := s_0) (l := r10.2.1 + 2) (h := (s_0.length : Int)) rfl rfl rfl rfl rfl (hsl _ _ rfl) (lo_some (hsl _ _ rfl)) rfl hk28 hK)) stg_nil)) (ds_store [(2, _), (69, _)] rfl ⟨.inl rfl, .inr ⟨0, _, rfl, rfl, rfl⟩, trivial⟩ rfl (fun sl hsl K hK => one_op rfl (ok_store rfl rfl rfl (hsl _ _ rfl) (hsl _ _ rfl) rfl rfl rfl (Nat.le_of_ble_eq_true rfl) hK)) ?_)
     refine ds_pure (fun _ => .p (eS (sub s_0 (r10.2.1 + 2) (s_0.length : Int)))) rfl rfl rfl (all2 rfl (fun _ => rfl)) (lt1 rfl) (stg_yes [(73, _)] ⟨.inr ⟨4, _, rfl, rfl, rfl⟩, trivial⟩ (fun sl hsl K hK => one_op rfl (ok_assign rfl rfl rfl (hsl _ _ rfl) hK)) (stg_no rfl stg_nil)) (ds_pure (fun _ => .p (eB true)) rfl rfl rfl (all2 rfl (fun _ => rfl)) (lt1 rfl) (stg_yes [] trivial (fun sl hsl K hK => one_op rfl (ok_assign rfl rfl rfl rfl hK)) (stg_no rfl stg_nil)) ?_)
     refine ds_nil (nx 2 rfl ?_)
     exact mQ (oi h0) rfl (sub_tuple ⟨sr, sr, sr, trivial⟩)
    refine fN (p := r10.2.2 = 0) [] h1 rfl (fun c12 h1 => ?_) fun c12 h1 => ?_
    ·refine cc' h1 fun hk13 h1 => fD (p := (s_0.length : Int) ≤ r10.2.1 + 1) [] h1 rfl (fun c14 h1 => ?_) fun c14 h1 => ?_
     ·refine mD [(0, .p (eS s_0)), (2, .ptr 2 0), (5, .p (eS r10.1)), (6, .p (eI r10.2.1)), (7, .p (eI r10.2.2)), (8, .ptr 8 0)] rfl ⟨rfl, rfl, rfl, rfl, rfl, rfl, trivial⟩ rfl (dR 1 rfl ?_)
      refine dL (nd_false c12) rfl (dR 2 rfl ?_)
      refine dq (.p (eI (r10.2.1 + 1))) [40,41] rfl (fun _ e _ q => one_yes (ok_ar rfl rfl rfl (e _ _ rfl) rfl rfl hk13 q) rfl rfl (e _ _ rfl) (rfl)) rfl (dR 1 rfl ?_)
      refine dq (.p (eI (s_0.length : Int))) [40,43] rfl (fun _ e _ q => one_yes (ok_lenS rfl rfl rfl rfl rfl (e _ _ rfl) q) rfl rfl (e _ _ rfl) (rfl)) rfl (dL (dt c14) rfl ?_)
      refine dR 22 rfl (dE rfl ?_)
      exact nx 1 rfl (eX _ (oi h1).symm (gE rfl rfl))
     refine cc' h1 fun hk15 h1 => cc' h1 fun hk16 h1 => fN (p := byt s_0 (r10.2.1 + 1) = 93) [] h1 rfl (fun c17 h1 => ?_) fun c17 h1 => ?_
     ·refine cc' h1 fun hk18 h1 => cc' h1 fun hk19 h1 => bd h1 fun r20 e21 h1 => fN (p := sub s_0 1 (r10.2.1 + 1) = r20) [] h1 rfl (fun c22 h1 => ?_) fun c22 h1 => ?_
      ·refine bd h1 fun r23 e24 h1 => mD [(0, .p (eS s_0)), (2, .ptr 2 0), (5, .p (eS r10.1)), (6, .p (eI r10.2.1)), (7, .p (eI r10.2.2)), (8, .ptr 8 0)] rfl ⟨rfl, rfl, rfl, rfl, rfl, rfl, trivial⟩ rfl (dR 1 rfl ?_)
       refine dL (nd_false c12) rfl (dR 2 rfl ?_)
       refine dq (.p (eI (r10.2.1 + 1))) [40,41] rfl (fun _ e _ q => one_yes (ok_ar rfl rfl rfl (e _ _ rfl) rfl rfl hk13 q) rfl rfl (e _ _ rfl) (rfl)) rfl (dR 1 rfl ?_)
       refine dq (.p (eI (s_0.length : Int))) [40,43] rfl (fun _ e _ q => one_yes (ok_lenS rfl rfl rfl rfl rfl (e _ _ rfl) q) rfl rfl (e _ _ rfl) (rfl)) rfl (dL (df c14) rfl ?_)
       refine dR 4 rfl (dq (.p (eI (r10.2.1 + 1))) [47,49] rfl (fun _ e _ q => one_yes (ok_ar rfl rfl rfl (e _ _ rfl) rfl rfl hk15 q) rfl rfl (e _ _ rfl) (rfl)) rfl ?_)
       refine dq (.p (eK .u8 (byt s_0 (r10.2.1 + 1)))) [47,48,50] rfl (fun _ e _ q => one_yes (op_indexS rfl rfl rfl rfl rfl (e _ _ rfl) (e _ _ rfl) hk16 q) rfl rfl (e _ _ rfl) (rfl)) rfl (dL (nd_false c17) rfl ?_)
       refine dR 4 rfl (dq (.p (eI (r10.2.1 + 1))) [54,56] rfl (fun _ e _ q => one_yes (ok_ar rfl rfl rfl (e _ _ rfl) rfl rfl hk18 q) rfl rfl (e _ _ rfl) (rfl)) rfl ?_)
       refine dq (.p (eS (sub s_0 1 (r10.2.1 + 1)))) [54,55,57] rfl (fun _ e _ q => one_yes (op_sliceS (a := s_0) (l := 1) (h := r10.2.1 + 1) rfl rfl rfl rfl rfl (e _ _ rfl) rfl (hi_some (e _ _ rfl)) hk19 q) rfl rfl (e _ _ rfl) (rfl)) rfl (dR 1 rfl ?_)
       refine dq (.p (eS r20)) [54,59] rfl (fun _ e _ q => one_yes (ok_callP (ref02_Quote_ok _ r10.1 _ e21) rfl rfl rfl (args_cons (e _ _ rfl) args_nil) ⟨sr, trivial⟩ Tryz.call37 rfl q) rfl rfl (e _ _ rfl) (rfl)) rfl (dq (.p (eB (!decide (sub s_0 1 (r10.2.1 + 1) = r20)))) [54,58,60] rfl (fun _ e _ q => one_yes (ok_cmpS rfl rfl rfl (e _ _ rfl) (e _ _ rfl) rfl q) rfl rfl (e _ _ rfl) (rfl)) rfl ?_)
       refine dL (nd_false c22) rfl (dR 2 rfl ?_)
       refine dq (.p (eB r23)) [63,64] rfl (fun _ e _ q => one_yes (ok_callP (ref06_Key_ok _ (TKey.mk 2 0 r10.1) _ e24) rfl rfl rfl (args_cons (e _ _ rfl) args_nil) ⟨sr, trivial⟩ Tryz.call29 rfl q) rfl rfl (e _ _ rfl) (rfl)) rfl (dR 2 rfl ?_)
       refine dE rfl (nx 1 rfl ?_)
       exact eX _ (oi h1).symm (gE rfl rfl)
      refine mD [(0, .p (eS s_0)), (2, .ptr 2 0), (5, .p (eS r10.1)), (6, .p (eI r10.2.1)), (7, .p (eI r10.2.2)), (8, .ptr 8 0)] rfl ⟨rfl, rfl, rfl, rfl, rfl, rfl, trivial⟩ rfl (dR 1 rfl ?_)
      refine dL (nd_false c12) rfl (dR 2 rfl ?_)
      refine dq (.p (eI (r10.2.1 + 1))) [40,41] rfl (fun _ e _ q => one_yes (ok_ar rfl rfl rfl (e _ _ rfl) rfl rfl hk13 q) rfl rfl (e _ _ rfl) (rfl)) rfl (dR 1 rfl ?_)
      refine dq (.p (eI (s_0.length : Int))) [40,43] rfl (fun _ e _ q => one_yes (ok_lenS rfl rfl rfl rfl rfl (e _ _ rfl) q) rfl rfl (e _ _ rfl) (rfl)) rfl (dL (df c14) rfl ?_)
      refine dR 4 rfl (dq (.p (eI (r10.2.1 + 1))) [47,49] rfl (fun _ e _ q => one_yes (ok_ar rfl rfl rfl (e _ _ rfl) rfl rfl hk15 q) rfl rfl (e _ _ rfl) (rfl)) rfl ?_)
      refine dq (.p (eK .u8 (byt s_0 (r10.2.1 + 1)))) [47,48,50] rfl (fun _ e _ q => one_yes (op_indexS rfl rfl rfl rfl rfl (e _ _ rfl) (e _ _ rfl) hk16 q) rfl rfl (e _ _ rfl) (rfl)) rfl (dL (nd_false c17) rfl ?_)
      refine dR 4 rfl (dq (.p (eI (r10.2.1 + 1))) [54,56] rfl (fun _ e _ q => one_yes (ok_ar rfl rfl rfl (e _ _ rfl) rfl rfl hk18 q) rfl rfl (e _ _ rfl) (rfl)) rfl ?_)
      refine dq (.p (eS (sub s_0 1 (r10.2.1 + 1)))) [54,55,57] rfl (fun _ e _ q => one_yes (op_sliceS (a := s_0) (l := 1) (h := r10.2.1 + 1) rfl rfl rfl rfl rfl (e _ _ rfl) rfl (hi_some (e _ _ rfl)) hk19 q) rfl rfl (e _ _ rfl) (rfl)) rfl (dR 1 rfl ?_)
      refine dq (.p (eS r20)) [54,59] rfl (fun _ e _ q => one_yes (ok_callP (ref02_Quote_ok _ r10.1 _ e21) rfl rfl rfl (args_cons (e _ _ rfl) args_nil) ⟨sr, trivial⟩ Tryz.call37 rfl q) rfl rfl (e _ _ rfl) (rfl)) rfl (dq (.p (eB (!decide (sub s_0 1 (r10.2.1 + 1) = r20)))) [54,58,60] rfl (fun _ e _ q => one_yes (ok_cmpS rfl rfl rfl (e _ _ rfl) (e _ _ rfl) rfl q) rfl rfl (e _ _ rfl) (rfl)) rfl ?_)
      refine dL (nd_true c22) rfl (dR 5 rfl ?_)
      refine dE rfl (nx 1 rfl ?_)
      exact eX _ (oi h1).symm (gE rfl rfl)
     refine mD [(0, .p (eS s_0)), (2, .ptr 2 0), (5, .p (eS r10.1)), (6, .p (eI r10.2.1)), (7, .p (eI r10.2.2)), (8, .ptr 8 0)] rfl ⟨rfl, rfl, rfl, rfl, rfl, rfl, trivial⟩ rfl (dR 1 rfl ?_)
     refine dL (nd_false c12) rfl (dR 2 rfl ?_)
     refine dq (.p (eI (r10.2.1 + 1))) [40,41] rfl (fun _ e _ q => one_yes (ok_ar rfl rfl rfl (e _ _ rfl) rfl rfl hk13 q) rfl rfl (e _ _ rfl) (rfl)) rfl (dR 1 rfl ?_)
     refine dq (.p (eI (s_0.length : Int))) [40,43] rfl (fun _ e _ q => one_yes (ok_lenS rfl rfl rfl rfl rfl (e _ _ rfl) q) rfl rfl (e _ _ rfl) (rfl)) rfl (dL (df c14) rfl ?_)
     refine dR 4 rfl (dq (.p (eI (r10.2.1 + 1))) [47,49] rfl (fun _ e _ q => one_yes (ok_ar rfl rfl rfl (e _ _ rfl) rfl rfl hk15 q) rfl rfl (e _ _ rfl) (rfl)) rfl ?_)
     refine dq (.p (eK .u8 (byt s_0 (r10.2.1 + 1)))) [47,48,50] rfl (fun _ e _ q => one_yes (op_indexS rfl rfl rfl rfl rfl (e _ _ rfl) (e _ _ rfl) hk16 q) rfl rfl (e _ _ rfl) (rfl)) rfl (dL (nd_true c17) rfl ?_)
     refine dR 15 rfl (dE rfl ?_)
     exact nx 1 rfl (eX _ (oi h1).symm (gE rfl rfl))
    refine mD [(0, .p (eS s_0)), (2, .ptr 2 0), (5, .p (eS r10.1)), (6, .p (eI r10.2.1)), (7, .p (eI r10.2.2)), (8, .ptr 8 0)] rfl ⟨rfl, rfl, rfl, rfl, rfl, rfl, trivial⟩ rfl (dR 1 rfl ?_)
    refine dL (nd_true c12) rfl (dR 28 rfl ?_)
    refine dE rfl (nx 1 rfl ?_)
    exact eX _ (oi h1).symm (gE rfl rfl)
   refine nx 8 rfl (bd h0 fun o69 h1 h0 => ?_)
   refine kE 0 o69 (fun v70 => ⟨[(0, .p (eS s_0)), (2, .ptr 2 0), (9, .p (eI v70))], [(2, [.p (eI 0), .p (eI 0), .p (eS ([] : Bytes))])]⟩) ?_ ?_
   ·refine nx 5 rfl (oP h0 rfl rfl rfl fun hk47 h0 => ?_)
    refine bd h0 fun r48 e49 h0 => oK (ref01_Parse_ok _ (sub s_0 1 o69) _ e49) rfl ⟨sr, trivial⟩ Tryz.call104 rfl (nx 8 rfl ?_)
    refine bd h0 fun o71 h1 h0 => kN o71 (fun v72 => ⟨[(0, .p (eS s_0)), (2, .ptr 2 0), (9, .p (eI o69)), (10, .p (eI r48.1)), (112, .p (eB v72))], [(2, [.p (eI 0), .p (eI 0), .p (eS ([] : Bytes))])]⟩) ?_ ?_
    ·refine nx 1 rfl (fB [112] h0 rfl (fun c54 h0 => ?_) fun c54 h0 => ?_)
     ·exact nx 9 rfl (mQ (oi h0) rfl (sub_tuple ⟨sr, sr, sr, trivial⟩))
     refine nx 3 rfl (cc' h0 fun hk55 h0 => ?_)
     refine cc' h0 fun hk56 h0 => mG (gE (t := ⟨[(0, .p (eS s_0)), (2, .ptr 2 0), (9, .p (eI o69)), (10, .p (eI r48.1))], [(2, [.p (eI 0), .p (eI 0), .p (eS ([] : Bytes))])]⟩) rfl rfl) (mS ⟨1, [6], (fun _ => none), (fun _ => [(0, .p (eS s_0)), (2, .ptr 2 0), (9, .p (eI o69)), (10, .p (eI r48.1))]), (by2 ([(2, [.p (eI 0), .p (eI 0), .p (eS ([] : Bytes))])]) ([(2, [.p (eI 1), .p (eI r48.1), .p (eS ([] : Bytes))]), (2, [.p (eI 0), .p (eI 0), .p (eS ([] : Bytes))])]))⟩ rfl rfl rfl ⟨rfl, rfl, rfl, rfl, trivial⟩ (lt1 ⟨rfl, rfl, rfl, rfl, trivial⟩) rfl rfl rfl rfl ?_)
     refine ds_pure (fun _ => .p (eI r48.1)) rfl rfl rfl (all2 rfl (fun _ => rfl)) (lt1 rfl) (stg_no rfl (stg_yes [(10, _)] ⟨.inl rfl, trivial⟩ (fun sl hsl K hK => one_op rfl (ok_move rfl rfl rfl (hsl _ _ rfl) hK)) stg_nil)) (ds_pure (fun _ => .p (.agg [eI 1, eI r48.1, eS ([] : Bytes)])) rfl rfl rfl (all2 rfl (fun _ => rfl)) (lt1 rfl) (stg_no rfl (stg_yes [(114, _)] ⟨.inr ⟨0, _, rfl, rfl, rfl⟩, trivial⟩ (fun sl hsl K hK => one_op rfl (ok_build rfl rfl rfl rfl rfl rfl (parts_cons rfl (parts_cons (hsl _ _ rfl) parts_nil)) rfl rfl hK)) stg_nil)) ?_)
     refine ds_pure (fun _ => .p (eS s_0)) rfl rfl rfl (all2 rfl (fun _ => rfl)) (lt1 rfl) (stg_yes [(0, _)] ⟨.inl rfl, trivial⟩ (fun sl hsl K hK => one_op rfl (ok_move rfl rfl rfl (hsl _ _ rfl) hK)) (stg_yes [(0, _)] ⟨.inl rfl, trivial⟩ (fun sl hsl K hK => one_op rfl (ok_move rfl rfl rfl (hsl _ _ rfl) hK)) stg_nil)) (ds_pure (fun _ => .p (eI o69)) rfl rfl rfl (all2 rfl (fun _ => rfl)) (lt1 rfl) (stg_yes [(9, _)] ⟨.inl rfl, trivial⟩ (fun sl hsl K hK => one_op rfl (ok_move rfl rfl rfl (hsl _ _ rfl) hK)) (stg_yes [(9, _)] ⟨.inl rfl, trivial⟩ (fun sl hsl K hK => one_op rfl (ok_move rfl rfl rfl (hsl _ _ rfl) hK)) stg_nil)) ?_)
     refine ds_pure (fun _ => .p (eI (o69 + 1))) rfl rfl rfl (all2 rfl (fun _ => rfl)) (lt1 rfl) (stg_yes [(117, _)] ⟨.inr ⟨3, _, rfl, rfl, rfl⟩, trivial⟩ (fun sl hsl K hK => one_op rfl (ok_ar rfl rfl rfl (hsl _ _ rfl) rfl rfl hk55 hK)) (stg_yes [(117, _)] ⟨.inr ⟨3, _, rfl, rfl, rfl⟩, trivial⟩ (fun sl hsl K hK => one_op rfl (ok_ar rfl rfl rfl (hsl _ _ rfl) rfl rfl hk55 hK)) stg_nil)) (ds_pure (fun _ => .p (eS (sub s_0 (o69 + 1) (s_0.length : Int)))) rfl rfl rfl (all2 rfl (fun _ => rfl)) (lt1 rfl) (stg_yes [(116, _), (118, _)] ⟨.inr ⟨2, _, rfl, rfl, rfl⟩, .inr ⟨4, _, rfl, rfl, rfl⟩, trivial⟩ (fun sl hsl K hK => one_op rfl (op_sliceS (a := s_0) (l := o69 + 1) (h := (s_0.length : Int)) rfl rfl rfl rfl rfl (hsl _ _ rfl) (lo_some (hsl _ _ rfl)) rfl hk56 hK)) (stg_yes [(116, _), (118, _)] ⟨.inr ⟨2, _, rfl, rfl, rfl⟩, .inr ⟨4, _, rfl, rfl, rfl⟩, trivial⟩ (fun sl hsl K hK => one_op rfl (op_sliceS (a := s_0) (l := o69 + 1) (h := (s_0.length : Int)) rfl rfl rfl rfl rfl (hsl _ _ rfl) (lo_some (hsl _ _ rfl)) rfl hk56 hK)) stg_nil)) ?_)
     refine ds_store [(2, _), (115, _)] rfl ⟨.inl rfl, .inr ⟨1, _, rfl, rfl, rfl⟩, trivial⟩ rfl (fun sl hsl K hK => one_op rfl (ok_store rfl rfl rfl (hsl _ _ rfl) (hsl _ _ rfl) rfl rfl rfl (Nat.le_of_ble_eq_true rfl) hK)) (ds_pure (fun _ => .p (eS (sub s_0 (o69 + 1) (s_0.length : Int)))) rfl rfl rfl (all2 rfl (fun _ => rfl)) (lt1 rfl) (stg_yes [(119, _)] ⟨.inr ⟨5, _, rfl, rfl, rfl⟩, trivial⟩ (fun sl hsl K hK => one_op rfl (ok_assign rfl rfl rfl (hsl _ _ rfl) hK)) (stg_no rfl stg_nil)) ?_)
     refine ds_pure (fun _ => .p (eB true)) rfl rfl rfl (all2 rfl (fun _ => rfl)) (lt1 rfl) (stg_yes [] trivial (fun sl hsl K hK => one_op rfl (ok_assign rfl rfl rfl rfl hK)) (stg_no rfl stg_nil)) (ds_nil ?_)
     exact nx 2 rfl (mQ (oi h0) rfl (sub_tuple ⟨sr, sr, sr, trivial⟩))
    refine nx 4 rfl (fN [100, 101] h1 rfl (fun c50 h1 => ?_) fun c50 h1 => ?_)
    ·refine nx 2 rfl (oLs rfl ?_)
     refine nx 3 rfl (fD [105, 106, 107] h1 rfl (fun c51 h1 => ?_) fun c51 h1 => ?_)
     ·exact nx 6 rfl (eX _ (oi h1).symm (gE rfl rfl))
     refine nx 2 rfl (oI h1 rfl fun hk52 h1 => ?_)
     exact nx 3 rfl (eX _ (oi h1).symm (gE rfl rfl))
    exact nx 12 rfl (eX _ (oi h1).symm (gE rfl rfl))
   refine lG (fun (q73 : Int) => ⟨[(0, .p (eS s_0)), (2, .ptr 2 0), (9, .p (eI q73))], [(2, [.p (eI 0), .p (eI 0), .p (eS ([] : Bytes))])]⟩) (fun m (q73 : Int) => ref06_key_l1 s_0 m q73) (fun _ => rfl) 1 h1 (gE rfl rfl) ?_
   rintro m n37 h1
   replace h1 : ref06_key_l1 s_0 (m + 1) n37 = some o69 := h1
   rw [ref06_key_l1] at h1
   refine nx 2 rfl (bd h1 fun o74 h2 h1 => ?_)
   refine kN o74 (fun v75 => ⟨[(0, .p (eS s_0)), (2, .ptr 2 0), (9, .p (eI n37)), (89, .p (eB v75))], [(2, [.p (eI 0), .p (eI 0), .p (eS ([] : Bytes))])]⟩) ?_ ?_
   ·refine nx 1 rfl (fB [89] h1 rfl (fun c43 h1 => ?_) fun c43 h1 => ?_)
    ·refine nx 5 rfl (oA h1 rfl rfl fun hk44 h1 => ?_)
     exact nx 2 rfl (eX (n37 + 1) h1 (gE rfl rfl))
    exact nx 2 rfl (eXi _ (oi h1).symm (gE rfl rfl))
   refine nx 3 rfl (oLs rfl ?_)
   refine nx 2 rfl (fD [77, 78] h2 rfl (fun c38 h2 => ?_) fun c38 h2 => ?_)
   ·refine nx 2 rfl (oI h2 rfl fun hk39 h2 => ?_)
    refine nx 3 rfl (fD [82, 83, 84] h2 rfl (fun c40 h2 => ?_) fun c40 h2 => ?_)
    ·refine nx 2 rfl (oI h2 rfl fun hk41 h2 => ?_)
     exact nx 3 rfl (eX _ (oi h2).symm (gE rfl rfl))
    exact nx 6 rfl (eX _ (oi h2).symm (gE rfl rfl))
   exact nx 12 rfl (eX _ (oi h2).symm (gE rfl rfl))
  refine nx 2 rfl (oLs rfl ?_)
  refine nx 2 rfl (fD [23, 24] h1 rfl (fun c5 h1 => ?_) fun c5 h1 => ?_)
  ·refine nx 1 rfl (oI h1 rfl fun hk6 h1 => ?_)
   exact nx 3 rfl (eX _ (oi h1).symm (gE rfl rfl))
  exact nx 5 rfl (eX _ (oi h1).symm (gE rfl rfl))
 refine nx 2 rfl (oS rfl rfl ?_)
 refine nx 1 rfl (fD [13, 14] h1 rfl (fun c1 h1 => ?_) fun c1 h1 => ?_)
 ·exact nx 5 rfl (eX _ (oi h1).symm (gE rfl rfl))
 refine nx 1 rfl (oI h1 rfl fun hk2 h1 => ?_)
 exact nx 3 rfl (eX _ (oi h1).symm (gE rfl rfl))

def ref06_step (n : Nat) (s_0 : Bytes) : Option (TModuleStep × Bytes × Bool) :=
 ck ((0 : Int) ≤ 7 ∧ 7 ≤ (s_0.length : Int) ∧ (s_0.length : Int) ≤ (s_0.length : Int)) <|
 (ref06_word n (sub s_0 7 (s_0.length : Int))).bind fun r2 =>
 (ref06_key n r2.2).bind fun r4 =>
 (
   if r4.2.2 = true then
    (ref06_Identifier n r2.1).bind fun r7 =>
    some r7
   else
    some false
  : Option Bool).bind fun t9 =>
 some ((TModuleStep.mk r2.1 r4.1), r4.2.1, t9)

set_option maxHeartbeats 4000000 in
theorem ref06_step_ok (n : Nat) (s_0 : Bytes) (r : TModuleStep × Bytes × Bool) (h0 : ref06_step n s_0 = some r) : PCalls Tryz.prog 76 [eS s_0] (· = .tuple [.p (.agg (TModuleStep.cs r.1)), .p (eS r.2.1), .p (eB r.2.2)]) := by
 unfold ref06_step at h0
 refine pbodyA good Tryz.func76 rfl rfl rfl fun w0 => mP (fun v : TModuleStep × Bytes × Bool => .tuple [.p (.agg (TModuleStep.cs v.1)), .p (eS v.2.1), .p (eB v.2.2)]) ?_
 refine nx 9 rfl (oP h0 rfl rfl rfl fun hk1 h0 => ?_)
 refine bd h0 fun r2 e3 h0 => oK (ref06_word_ok _ (sub s_0 7 (s_0.length : Int)) _ e3) rfl ⟨sr, trivial⟩ Tryz.call77 rfl (nx 9 rfl ?_)
 refine bd h0 fun r4 e5 h0 => oK (ref06_key_ok _ r2.2 _ e5) rfl ⟨sr, trivial⟩ Tryz.call78 rfl (nx 10 rfl ?_)
 refine bd h0 fun o11 h1 h0 => kN o11 (fun v12 => ⟨[(2, .ptr 2 0), (3, .p (eS r4.2.1)), (4, .p (eB v12))], [(2, [.p (eS r2.1), .p (eI r4.1.fKind), .p (eI r4.1.fNum), .p (eS r4.1.fStr)])]⟩) ?_ ?_
 ·exact nx 2 rfl (mQ (oi h0) rfl (sub_tuple ⟨sr, sr, sr, trivial⟩))
 refine fB [8, 20] h1 rfl (fun c6 h1 => ?_) fun c6 h1 => ?_
 ·refine bd h1 fun r7 e8 h1 => mG (gE (t := ⟨[(2, .ptr 2 0), (5, .p (eS r2.1)), (6, .p (eS r4.2.1)), (7, .ptr 7 0), (8, .p (eB true))], [(2, [.p (eS ([] : Bytes)), .p (eI 0), .p (eI 0), .p (eS ([] : Bytes))]), (7, [.p (eI r4.1.fKind), .p (eI r4.1.fNum), .p (eS r4.1.fStr)])]⟩) rfl rfl) (mS ⟨1, [9], (fun _ => none), (fun _ => [(2, .ptr 2 0), (5, .p (eS r2.1)), (6, .p (eS r4.2.1)), (7, .ptr 7 0), (8, .p (eB true))]), (by2 ([(2, [.p (eS ([] : Bytes)), .p (eI 0), .p (eI 0), .p (eS ([] : Bytes))]), (7, [.p (eI r4.1.fKind), .p (eI r4.1.fNum), .p (eS r4.1.fStr)])]) ([(2, [.p (eS r2.1), .p (eI r4.1.fKind), .p (eI r4.1.fNum), .p (eS r4.1.fStr)]), (2, [.p (eS ([] : Bytes)), .p (eI 0), .p (eI 0), .p (eS ([] : Bytes))]), (7, [.p (eI r4.1.fKind), .p (eI r4.1.fNum), .p (eS r4.1.fStr)])]))⟩ rfl rfl rfl ⟨rfl, rfl, rfl, rfl, rfl, trivial⟩ (lt1 ⟨rfl, rfl, rfl, rfl, rfl, trivial⟩) rfl rfl rfl rfl ?_)
  refine ds_pure (fun _ => .p (eS r2.1)) rfl rfl rfl (all2 rfl (fun _ => rfl)) (lt1 rfl) (stg_no rfl (stg_yes [(5, _)] ⟨.inl rfl, trivial⟩ (fun sl hsl K hK => one_op rfl (ok_move rfl rfl rfl (hsl _ _ rfl) hK)) stg_nil)) (ds_pure (fun _ => .p (.agg (TKey.cs r4.1))) rfl rfl rfl (all2 rfl (fun _ => rfl)) (lt1 rfl) (stg_no rfl (stg_yes [(7, _)] ⟨.inl rfl, trivial⟩ (fun sl hsl K hK => one_op rfl (ok_loadPA rfl rfl rfl rfl rfl (hsl _ _ rfl) rfl rfl rfl hK)) stg_nil)) ?_)
  refine ds_pure (fun _ => .p (.agg [eS r2.1, eI r4.1.fKind, eI r4.1.fNum, eS r4.1.fStr])) rfl rfl rfl (all2 rfl (fun _ => rfl)) (lt1 rfl) (stg_no rfl (stg_yes [(21, _), (22, _)] ⟨.inr ⟨0, _, rfl, rfl, rfl⟩, .inr ⟨1, _, rfl, rfl, rfl⟩, trivial⟩ (fun sl hsl K hK => one_op rfl (ok_build rfl rfl rfl rfl rfl rfl (parts_cons (hsl _ _ rfl) (parts_cons (hsl _ _ rfl) parts_nil)) rfl rfl hK)) stg_nil)) (ds_pure (fun _ => .p (eS r4.2.1)) rfl rfl rfl (all2 rfl (fun _ => rfl)) (lt1 rfl) (stg_yes [(6, _)] ⟨.inl rfl, trivial⟩ (fun sl hsl K hK => one_op rfl (ok_move rfl rfl rfl (hsl _ _ rfl) hK)) (stg_yes [(6, _)] ⟨.inl rfl, trivial⟩ (fun sl hsl K hK => one_op rfl (ok_move rfl rfl rfl (hsl _ _ rfl) hK)) stg_nil)) ?_)
  refine ds_pure (fun _ => .p (eB true)) rfl rfl rfl (all2 rfl (fun _ => rfl)) (lt1 rfl) (stg_yes [(8, _)] ⟨.inl rfl, trivial⟩ (fun sl hsl K hK => one_op rfl (ok_move rfl rfl rfl (hsl _ _ rfl) hK)) (stg_yes [(8, _)] ⟨.inl rfl, trivial⟩ (fun sl hsl K hK => one_op rfl (ok_move rfl rfl rfl (hsl _ _ rfl) hK)) stg_nil)) (ds_pure (fun _ => .p (eB true)) rfl rfl rfl (all2 rfl (fun _ => rfl)) (lt1 rfl) (stg_yes [(25, _)] ⟨.inr ⟨4, _, rfl, rfl, rfl⟩, trivial⟩ (fun sl hsl K hK => one_op rfl (ok_move rfl rfl rfl (hsl _ _ rfl) hK)) (stg_yes [(25, _)] ⟨.inr ⟨4, _, rfl, rfl, rfl⟩, trivial⟩ (fun sl hsl K hK => one_op rfl (ok_move rfl rfl rfl (hsl _ _ rfl) hK)) stg_nil)) ?_)
  refine ds_pure (fun _ => .p (eS r2.1)) rfl rfl rfl (all2 rfl (fun _ => rfl)) (lt1 rfl) (stg_yes [(5, _), (26, _)] ⟨.inl rfl, .inr ⟨5, _, rfl, rfl, rfl⟩, trivial⟩ (fun sl hsl K hK => one_yes (ok_move rfl rfl rfl (hsl _ _ rfl) hK) rfl rfl (hsl _ _ rfl) (rfl)) (stg_yes [(5, _), (26, _)] ⟨.inl rfl, .inr ⟨5, _, rfl, rfl, rfl⟩, trivial⟩ (fun sl hsl K hK => one_yes (ok_move rfl rfl rfl (hsl _ _ rfl) hK) rfl rfl (hsl _ _ rfl) (rfl)) stg_nil)) (ds_pure (fun _ => .p (eB r7)) rfl rfl rfl (all2 rfl (fun _ => rfl)) (lt1 rfl) (stg_no rfl (stg_yes [(26, _), (27, _)] ⟨.inr ⟨5, _, rfl, rfl, rfl⟩, .inr ⟨6, _, rfl, rfl, rfl⟩, trivial⟩ (fun sl hsl K hK => one_yes (ok_callP (ref06_Identifier_ok _ r2.1 _ e8) rfl rfl rfl (args_cons (hsl _ _ rfl) args_nil) ⟨sr, trivial⟩ Tryz.call28 rfl hK) rfl rfl (hsl _ _ rfl) (rfl)) stg_nil)) ?_)
  refine ds_pure (fun _ => .p (eB r7)) rfl rfl rfl (all2 rfl (fun _ => rfl)) (lt1 rfl) (stg_yes [(26, _), (28, _)] ⟨.inr ⟨5, _, rfl, rfl, rfl⟩, .inr ⟨7, _, rfl, rfl, rfl⟩, trivial⟩ (fun sl hsl K hK => one_op rfl (ok_pick_true rfl rfl rfl (hsl _ _ rfl) (rfl) (hsl _ _ rfl) hK)) (stg_yes [(26, _), (28, _)] ⟨.inr ⟨5, _, rfl, rfl, rfl⟩, .inr ⟨7, _, rfl, rfl, rfl⟩, trivial⟩ (fun sl hsl K hK => one_op rfl (ok_pick_true rfl rfl rfl (hsl _ _ rfl) (rfl) (hsl _ _ rfl) hK)) stg_nil)) (ds_store [(2, _), (23, _)] rfl ⟨.inl rfl, .inr ⟨2, _, rfl, rfl, rfl⟩, trivial⟩ rfl (fun sl hsl K hK => one_op rfl (ok_store rfl rfl rfl (hsl _ _ rfl) (hsl _ _ rfl) rfl rfl rfl (Nat.le_of_ble_eq_true rfl) hK)) ?_)
  refine ds_pure (fun _ => .p (eS r4.2.1)) rfl rfl rfl (all2 rfl (fun _ => rfl)) (lt1 rfl) (stg_yes [(24, _)] ⟨.inr ⟨3, _, rfl, rfl, rfl⟩, trivial⟩ (fun sl hsl K hK => one_op rfl (ok_assign rfl rfl rfl (hsl _ _ rfl) hK)) (stg_no rfl stg_nil)) (ds_pure (fun _ => .p (eB r7)) rfl rfl rfl (all2 rfl (fun _ => rfl)) (lt1 rfl) (stg_yes [(29, _)] ⟨.inr ⟨8, _, rfl, rfl, rfl⟩, trivial⟩ (fun sl hsl K hK => one_op rfl (ok_assign rfl rfl rfl (hsl _ _ rfl) hK)) (stg_no rfl stg_nil)) ?_)
  refine ds_nil (nx 1 rfl ?_)
  exact eX _ (oi h1).symm (gE rfl rfl)
 refine mG (gE (t := ⟨[(2, .ptr 2 0), (5, .p (eS r2.1)), (6, .p (eS r4.2.1)), (7, .ptr 7 0), (8, .p (eB false))], [(2, [.p (eS ([] : Bytes)), .p (eI 0), .p (eI 0), .p (eS ([] : Bytes))]), (7, [.p (eI r4.1.fKind), .p (eI r4.1.fNum), .p (eS r4.1.fStr)])]⟩) rfl rfl) (mS ⟨1, [9], (fun _ => none), (fun _ => [(2, .ptr 2 0), (5, .p (eS r2.1)), (6, .p (eS r4.2.1)), (7, .ptr 7 0), (8, .p (eB false))]), (by2 ([(2, [.p (eS ([] : Bytes)), .p (eI 0), .p (eI 0), .p (eS ([] : Bytes))]), (7, [.p (eI r4.1.fKind), .p (eI r4.1.fNum), .p (eS r4.1.fStr)])]) ([(2, [.p (eS r2.1), .p (eI r4.1.fKind), .p (eI r4.1.fNum), .p (eS r4.1.fStr)]), (2, [.p (eS ([] : Bytes)), .p (eI 0), .p (eI 0), .p (eS ([] : Bytes))]), (7, [.p (eI r4.1.fKind), .p (eI r4.1.fNum), .p (eS r4.1.fStr)])]))⟩ rfl rfl rfl ⟨rfl, rfl, rfl, rfl, rfl, trivial⟩ (lt1 ⟨rfl, rfl, rfl, rfl, rfl, trivial⟩) rfl rfl rfl rfl ?_)
 refine ds_pure (fun _ => .p (eS r2.1)) rfl rfl rfl (all2 rfl (fun _ => rfl)) (lt1 rfl) (stg_no rfl (stg_yes [(5, _)] ⟨.inl rfl, trivial⟩ (fun sl hsl K hK => one_op rfl (ok_move rfl rfl rfl (hsl _ _ rfl) hK)) stg_nil)) (ds_pure (fun _ => .p (.agg (TKey.cs r4.1))) rfl rfl rfl (all2 rfl (fun _ => rfl)) (lt1 rfl) (stg_no rfl (stg_yes [(7, _)] ⟨.inl rfl, trivial⟩ (fun sl hsl K hK => one_op rfl (ok_loadPA rfl rfl rfl rfl rfl (hsl _ _ rfl) rfl rfl rfl hK)) stg_nil)) ?_)
 refine ds_pure (fun _ => .p (.agg [eS r2.1, eI r4.1.fKind, eI r4.1.fNum, eS r4.1.fStr])) rfl rfl rfl (all2 rfl (fun _ => rfl)) (lt1 rfl) (stg_no rfl (stg_yes [(21, _), (22, _)] ⟨.inr ⟨0, _, rfl, rfl, rfl⟩, .inr ⟨1, _, rfl, rfl, rfl⟩, trivial⟩ (fun sl hsl K hK => one_op rfl (ok_build rfl rfl rfl rfl rfl rfl (parts_cons (hsl _ _ rfl) (parts_cons (hsl _ _ rfl) parts_nil)) rfl rfl hK)) stg_nil)) (ds_pure (fun _ => .p (eS r4.2.1)) rfl rfl rfl (all2 rfl (fun _ => rfl)) (lt1 rfl) (stg_yes [(6, _)] ⟨.inl rfl, trivial⟩ (fun sl hsl K hK => one_op rfl (ok_move rfl rfl rfl (hsl _ _ rfl) hK)) (stg_yes [(6, _)] ⟨.inl rfl, trivial⟩ (fun sl hsl K hK => one_op rfl (ok_move rfl rfl rfl (hsl _ _ rfl) hK)) stg_nil)) ?_)
 refine ds_pure (fun _ => .p (eB false)) rfl rfl rfl (all2 rfl (fun _ => rfl)) (lt1 rfl) (stg_yes [(8, _)] ⟨.inl rfl, trivial⟩ (fun sl hsl K hK => one_op rfl (ok_move rfl rfl rfl (hsl _ _ rfl) hK)) (stg_yes [(8, _)] ⟨.inl rfl, trivial⟩ (fun sl hsl K hK => one_op rfl (ok_move rfl rfl rfl (hsl _ _ rfl) hK)) stg_nil)) (ds_pure (fun _ => .p (eB false)) rfl rfl rfl (all2 rfl (fun _ => rfl)) (lt1 rfl) (stg_yes [(25, _)] ⟨.inr ⟨4, _, rfl, rfl, rfl⟩, trivial⟩ (fun sl hsl K hK => one_op rfl (ok_move rfl rfl rfl (hsl _ _ rfl) hK)) (stg_yes [(25, _)] ⟨.inr ⟨4, _, rfl, rfl, rfl⟩, trivial⟩ (fun sl hsl K hK => one_op rfl (ok_move rfl rfl rfl (hsl _ _ rfl) hK)) stg_nil)) ?_)
 refine ds_pure (fun _ => .p (.val (.tuple #[]))) rfl rfl rfl (all2 rfl (fun _ => rfl)) (lt1 rfl) (stg_yes [(5, _), (26, _)] ⟨.inl rfl, .inr ⟨5, _, rfl, rfl, rfl⟩, trivial⟩ (fun sl hsl K hK => one_no rfl rfl (hsl _ _ rfl) (rfl) rfl rfl hK) (stg_yes [(5, _), (26, _)] ⟨.inl rfl, .inr ⟨5, _, rfl, rfl, rfl⟩, trivial⟩ (fun sl hsl K hK => one_no rfl rfl (hsl _ _ rfl) (rfl) rfl rfl hK) stg_nil)) (ds_pure (fun _ => .p (.val (.tuple #[]))) rfl rfl rfl (all2 rfl (fun _ => rfl)) (lt1 rfl) (stg_no rfl (stg_yes [(26, _), (27, _)] ⟨.inr ⟨5, _, rfl, rfl, rfl⟩, .inr ⟨6, _, rfl, rfl, rfl⟩, trivial⟩ (fun sl hsl K hK => one_no rfl rfl (hsl _ _ rfl) (rfl) rfl rfl hK) stg_nil)) ?_)
 refine ds_pure (fun _ => .p (eB false)) rfl rfl rfl (all2 rfl (fun _ => rfl)) (lt1 rfl) (stg_yes [(26, _), (28, _)] ⟨.inr ⟨5, _, rfl, rfl, rfl⟩, .inr ⟨7, _, rfl, rfl, rfl⟩, trivial⟩ (fun sl hsl K hK => one_op rfl (ok_pick_false rfl rfl rfl (hsl _ _ rfl) (rfl) rfl hK)) (stg_yes [(26, _), (28, _)] ⟨.inr ⟨5, _, rfl, rfl, rfl⟩, .inr ⟨7, _, rfl, rfl, rfl⟩, trivial⟩ (fun sl hsl K hK => one_op rfl (ok_pick_false rfl rfl rfl (hsl _ _ rfl) (rfl) rfl hK)) stg_nil)) (ds_store [(2, _), (23, _)] rfl ⟨.inl rfl, .inr ⟨2, _, rfl, rfl, rfl⟩, trivial⟩ rfl (fun sl hsl K hK => one_op rfl (ok_store rfl rfl rfl (hsl _ _ rfl) (hsl _ _ rfl) rfl rfl rfl (Nat.le_of_ble_eq_true rfl) hK)) ?_)
 refine ds_pure (fun _ => .p (eS r4.2.1)) rfl rfl rfl (all2 rfl (fun _ => rfl)) (lt1 rfl) (stg_yes [(24, _)] ⟨.inr ⟨3, _, rfl, rfl, rfl⟩, trivial⟩ (fun sl hsl K hK => one_op rfl (ok_assign rfl rfl rfl (hsl _ _ rfl) hK)) (stg_no rfl stg_nil)) (ds_pure (fun _ => .p (eB false)) rfl rfl rfl (all2 rfl (fun _ => rfl)) (lt1 rfl) (stg_yes [(29, _)] ⟨.inr ⟨8, _, rfl, rfl, rfl⟩, trivial⟩ (fun sl hsl K hK => one_op rfl (ok_assign rfl rfl rfl (hsl _ _ rfl) hK)) (stg_no rfl stg_nil)) ?_)
 refine ds_nil (nx 1 rfl ?_)
 exact eX _ (oi h1).symm (gE rfl rfl)

def ref06_place_l1 (n : Nat) : Nat → Bytes → (List TModuleStep) → Option ((Bytes × (List TModuleStep)) ⊕ (TPlace × Bool))
 | 0, _, _ => none
 | m + 1, s14, f15 =>
 (ref06_begins s14 ([109, 111, 100, 117, 108, 101, 46] : Bytes)).bind fun r16 =>
 if r16 = true then
  (ref06_step n s14).bind fun r19 =>
  if (!r19.2.2) = true then
   some (.inr ((TPlace.mk (TAddress.mk [] false ([] : Bytes) ([] : Bytes) (TKey.mk 0 0 ([] : Bytes))) false), false))
  else
   ck ((f15.length + [r19.1].length) * 48 ≤ 140737488355328) <|
   if r19.2.1 = ([] : Bytes) then
    some (.inr ((TPlace.mk (TAddress.mk (f15 ++ [r19.1]) false ([] : Bytes) ([] : Bytes) (TKey.mk 0 0 ([] : Bytes))) false), true))
   else
    ck ((0 : Int) ≤ 0 ∧ 0 < (r19.2.1.length : Int)) <|
    if byt r19.2.1 0 = 46 then
     ck ((0 : Int) ≤ 1 ∧ 1 ≤ (r19.2.1.length : Int) ∧ (r19.2.1.length : Int) ≤ (r19.2.1.length : Int)) <|
     ref06_place_l1 n m (sub r19.2.1 1 (r19.2.1.length : Int)) (f15 ++ [r19.1])
    else
     some (.inr ((TPlace.mk (TAddress.mk [] false ([] : Bytes) ([] : Bytes) (TKey.mk 0 0 ([] : Bytes))) false), false))
 else
  some (.inl (s14, f15))

def ref06_place (n : Nat) (s_0 : Bytes) : Option (TPlace × Bool) :=
 jn (ref06_place_l1 n n s_0 []) fun q60 =>
 (
   (ref06_begins q60.1 ([100, 97, 116, 97, 46] : Bytes)).bind fun r31 =>
   if r31 = true then
    ck ((0 : Int) ≤ 5 ∧ 5 ≤ (q60.1.length : Int) ∧ (q60.1.length : Int) ≤ (q60.1.length : Int)) <|
    some (sub q60.1 5 (q60.1.length : Int), true)
   else
    some (q60.1, false)
  : Option (Bytes × Bool)).bind fun q61 =>
 (ref06_word n q61.1).bind fun r37 =>
 (
   (ref06_Identifier n r37.1).bind fun r39 =>
   if (!r39) = true then
    some true
   else
    (ref06_Reserved n r37.1).bind fun r42 =>
    if r42 = true then
     some true
    else
     if r37.2 = ([] : Bytes) then
      some true
     else
      ck ((0 : Int) ≤ 0 ∧ 0 < (r37.2.length : Int)) <|
      some (!decide (byt r37.2 0 = 46))
  : Option Bool).bind fun t47 =>
 if t47 = true then
  some ((TPlace.mk (TAddress.mk [] false ([] : Bytes) ([] : Bytes) (TKey.mk 0 0 ([] : Bytes))) false), false)
 else
  ck ((0 : Int) ≤ 1 ∧ 1 ≤ (r37.2.length : Int) ∧ (r37.2.length : Int) ≤ (r37.2.length : Int)) <|
  (ref06_word n (sub r37.2 1 (r37.2.length : Int))).bind fun r50 =>
  (ref06_key n r50.2).bind fun r52 =>
  (
    (ref06_Identifier n r50.1).bind fun r54 =>
    if (!r54) = true then
     some true
    else
     if (!r52.2.2) = true then
      some true
     else
      some (!decide (r52.2.1 = ([] : Bytes)))
   : Option Bool).bind fun t58 =>
  if t58 = true then
   some ((TPlace.mk (TAddress.mk [] false ([] : Bytes) ([] : Bytes) (TKey.mk 0 0 ([] : Bytes))) false), false)
  else
   some ((TPlace.mk (TAddress.mk q60.2 q61.2 r37.1 r50.1 r52.1) true), true)

set_option maxHeartbeats 4000000 in
theorem ref06_place_ok (n : Nat) (s_0 : Bytes) (r : TPlace × Bool) (h0 : ref06_place n s_0 = some r) : PCalls Tryz.prog 43 [eS s_0] (· = .tuple [.p (.agg (TPlace.cs r.1)), .p (eB r.2)]) := by
 unfold ref06_place at h0
 refine pbodyA good Tryz.func43 rfl rfl rfl fun w0 => mP (fun v : TPlace × Bool => .tuple [.p (.agg (TPlace.cs v.1)), .p (eB v.2)]) ?_
 refine nx 13 rfl ?_
 obtain ⟨o64, h1, hL0, hR0⟩ := jn_cut h0
 refine kEx 0 (fun v65 : Bytes × (List TModuleStep) => o64 = .inl v65) (fun v65 => ⟨[(0, .p (eS v65.1)), (2, .ptr 2 0), (4, .ptr 4 0)], [(2, [.p (.val (.slice none 0 0)), .p (eB false), .p (eS ([] : Bytes)), .p (eS ([] : Bytes)), .p (eI 0), .p (eI 0), .p (eS ([] : Bytes)), .p (eB false)]), (4, [.vec 30 4 0 (v65.2.map eTModuleStep), .p (eB false), .p (eS ([] : Bytes)), .p (eS ([] : Bytes)), .p (eI 0), .p (eI 0), .p (eS ([] : Bytes)), .p (eB false)])]⟩) (fun v65 hv => ?_) ?_
 ·have h0 := hL0 _ hv
  refine nx 2 rfl (bd h0 fun o66 h1 h0 => ?_)
  refine kN o66 (fun v67 => ⟨[(0, .p (eS v67.1)), (2, .ptr 2 0), (4, .ptr 4 0)], [(2, [.p (.val (.slice none 0 0)), .p (eB false), .p (eS ([] : Bytes)), .p (eS ([] : Bytes)), .p (eI 0), .p (eI 0), .p (eS ([] : Bytes)), .p (eB false)]), (4, [.vec 30 4 0 (v65.2.map eTModuleStep), .p (eB v67.2), .p (eS ([] : Bytes)), .p (eS ([] : Bytes)), .p (eI 0), .p (eI 0), .p (eS ([] : Bytes)), .p (eB false)])]⟩) ?_ ?_
  ·refine nx 4 rfl (bd h0 fun r37 e38 h0 => ?_)
   refine oK (ref06_word_ok _ o66.1 _ e38) rfl ⟨sr, trivial⟩ Tryz.call77 rfl (nx 8 rfl ?_)
   refine bd h0 fun o68 h1 h0 => kN o68 (fun v69 => ⟨[(2, .ptr 2 0), (4, .ptr 4 0), (8, .p (eS r37.1)), (9, .p (eS r37.2)), (68, .p (eB v69))], [(2, [.p (.val (.slice none 0 0)), .p (eB false), .p (eS ([] : Bytes)), .p (eS ([] : Bytes)), .p (eI 0), .p (eI 0), .p (eS ([] : Bytes)), .p (eB false)]), (4, [.vec 30 4 0 (v65.2.map eTModuleStep), .p (eB o66.2), .p (eS ([] : Bytes)), .p (eS ([] : Bytes)), .p (eI 0), .p (eI 0), .p (eS ([] : Bytes)), .p (eB false)])]⟩) ?_ ?_
   ·refine nx 1 rfl (fB [68] h0 rfl (fun c48 h0 => ?_) fun c48 h0 => ?_)
    ·exact nx 8 rfl (mQ (oi h0) rfl (sub_tuple ⟨sub_cells ⟨.inr ⟨rfl, rfl⟩, .inl rfl, .inl rfl, .inl rfl, .inl rfl, .inl rfl, .inl rfl, .inl rfl, trivial⟩, sr, trivial⟩))
    refine nx 5 rfl (oP h0 rfl rfl rfl fun hk49 h0 => ?_)
    refine bd h0 fun r50 e51 h0 => oK (ref06_word_ok _ (sub r37.2 1 (r37.2.length : Int)) _ e51) rfl ⟨sr, trivial⟩ Tryz.call77 rfl (nx 9 rfl ?_)
    refine bd h0 fun r52 e53 h0 => oK (ref06_key_ok _ r50.2 _ e53) rfl ⟨sr, trivial⟩ Tryz.call78 rfl (nx 11 rfl ?_)
    refine bd h0 fun o70 h1 h0 => kN o70 (fun v71 => ⟨[(2, .ptr 2 0), (4, .ptr 4 0), (8, .p (eS r37.1)), (10, .p (eS r50.1)), (11, .ptr 11 0), (92, .p (eB v71))], [(2, [.p (.val (.slice none 0 0)), .p (eB false), .p (eS ([] : Bytes)), .p (eS ([] : Bytes)), .p (eI 0), .p (eI 0), .p (eS ([] : Bytes)), .p (eB false)]), (4, [.vec 30 4 0 (v65.2.map eTModuleStep), .p (eB o66.2), .p (eS ([] : Bytes)), .p (eS ([] : Bytes)), .p (eI 0), .p (eI 0), .p (eS ([] : Bytes)), .p (eB false)]), (11, [.p (eI r52.1.fKind), .p (eI r52.1.fNum), .p (eS r52.1.fStr)])]⟩) ?_ ?_
    ·refine nx 1 rfl (fB [92] h0 rfl (fun c59 h0 => ?_) fun c59 h0 => ?_)
     ·exact nx 8 rfl (mQ (oi h0) rfl (sub_tuple ⟨sub_cells ⟨.inr ⟨rfl, rfl⟩, .inl rfl, .inl rfl, .inl rfl, .inl rfl, .inl rfl, .inl rfl, .inl rfl, trivial⟩, sr, trivial⟩))
     exact nx 35 rfl (mQ (oi h0) rfl (sub_tuple ⟨sub_aggs ⟨AV.sub_vec _ _ _ _, sr, sr, sr, sr, sr, sr, sr, trivial⟩, sr, trivial⟩))
    refine nx 2 rfl (bd h1 fun r54 e55 h1 => ?_)
    refine oK (ref06_Identifier_ok _ r50.1 _ e55) rfl ⟨sr, trivial⟩ Tryz.call28 rfl (nx 2 rfl ?_)
    refine fB [84, 85] h1 rfl (fun c56 h1 => ?_) fun c56 h1 => ?_
    ·exact nx 8 rfl (eX _ (oi h1).symm (gE rfl rfl))
    refine nx 4 rfl (fB [87, 88, 89] h1 rfl (fun c57 h1 => ?_) fun c57 h1 => ?_)
    ·exact nx 4 rfl (eX _ (oi h1).symm (gE rfl rfl))
    refine nx 1 rfl (oS rfl rfl ?_)
    exact nx 2 rfl (eX _ (oi h1).symm (gE rfl rfl))
   refine nx 2 rfl (bd h1 fun r39 e40 h1 => ?_)
   refine oK (ref06_Identifier_ok _ r37.1 _ e40) rfl ⟨sr, trivial⟩ Tryz.call28 rfl (nx 2 rfl ?_)
   refine fB [55, 56] h1 rfl (fun c41 h1 => ?_) fun c41 h1 => ?_
   ·exact nx 13 rfl (eX _ (oi h1).symm (gE rfl rfl))
   refine nx 1 rfl (bd h1 fun r42 e43 h1 => ?_)
   refine oK (ref06_Reserved_ok _ r37.1 _ e43) rfl ⟨sr, trivial⟩ Tryz.call30 rfl (nx 2 rfl ?_)
   refine fB [58, 59, 60] h1 rfl (fun c44 h1 => ?_) fun c44 h1 => ?_
   ·exact nx 9 rfl (eX _ (oi h1).symm (gE rfl rfl))
   refine nx 1 rfl (oS rfl rfl ?_)
   refine nx 2 rfl (fD [62, 63, 64] h1 rfl (fun c45 h1 => ?_) fun c45 h1 => ?_)
   ·exact nx 5 rfl (eX _ (oi h1).symm (gE rfl rfl))
   refine nx 1 rfl (oI h1 rfl fun hk46 h1 => ?_)
   exact nx 3 rfl (eX _ (oi h1).symm (gE rfl rfl))
  refine nx 3 rfl (bd h1 fun r31 e32 h1 => ?_)
  refine oK (ref06_begins_ok v65.1 ([100, 97, 116, 97, 46] : Bytes) _ e32) rfl ⟨sr, sr, trivial⟩ Tryz.call75 rfl (nx 1 rfl ?_)
  refine fB [43] h1 rfl (fun c33 h1 => ?_) fun c33 h1 => ?_
  ·refine nx 9 rfl (oP h1 rfl rfl rfl fun hk34 h1 => ?_)
   exact nx 2 rfl (eX _ (oi h1).symm (gE rfl rfl))
  exact nx 2 rfl (eX _ (oi h1).symm (gE rfl rfl))
 refine lG (fun (q72 : Bytes × (List TModuleStep)) => ⟨[(0, .p (eS q72.1)), (2, .ptr 2 0), (4, .ptr 4 0)], [(2, [.p (.val (.slice none 0 0)), .p (eB false), .p (eS ([] : Bytes)), .p (eS ([] : Bytes)), .p (eI 0), .p (eI 0), .p (eS ([] : Bytes)), .p (eB false)]), (4, [.vec 30 4 0 (q72.2.map eTModuleStep), .p (eB false), .p (eS ([] : Bytes)), .p (eS ([] : Bytes)), .p (eI 0), .p (eI 0), .p (eS ([] : Bytes)), .p (eB false)])]⟩) (fun m (q72 : Bytes × (List TModuleStep)) => ref06_place_l1 n m q72.1 q72.2) (fun _ => rfl) (s_0, []) h1 (ghost_le (le_mk ⟨er rfl, er rfl, er rfl, trivial⟩ ⟨⟨_, rfl, ⟨sr, sr, sr, sr, sr, sr, sr, sr, trivial⟩⟩, ⟨_, rfl, ⟨AV.sub_nilvec _ _ _, sr, sr, sr, sr, sr, sr, sr, trivial⟩⟩, trivial⟩)) ?_
 rintro m ⟨s14, f15⟩ h1
 replace h1 : ref06_place_l1 n (m + 1) s14 f15 = some o64 := h1
 rw [ref06_place_l1] at h1
 refine nx 4 rfl (bd h1 fun r16 e17 h1 => ?_)
 refine oK (ref06_begins_ok s14 ([109, 111, 100, 117, 108, 101, 46] : Bytes) _ e17) rfl ⟨sr, sr, trivial⟩ Tryz.call75 rfl (nx 1 rfl ?_)
 refine fB [15] h1 rfl (fun c18 h1 => ?_) fun c18 h1 => ?_
 ·refine nx 6 rfl (bd h1 fun r19 e20 h1 => ?_)
  refine oK (ref06_step_ok _ s14 _ e20) rfl ⟨sr, trivial⟩ Tryz.call76 rfl (nx 15 rfl ?_)
  refine fB [23] h1 rfl (fun c21 h1 => ?_) fun c21 h1 => ?_
  ·exact nx 8 rfl (mQ (hR0 _ (oi h1).symm) rfl (sub_tuple ⟨sub_cells ⟨.inr ⟨rfl, rfl⟩, .inl rfl, .inl rfl, .inl rfl, .inl rfl, .inl rfl, .inl rfl, .inl rfl, trivial⟩, sr, trivial⟩))
  refine nx 8 rfl (mO rfl (op_bslice eTModuleStep [r19.1] rfl rfl rfl rfl rfl rfl rfl rfl rfl rfl rfl rfl rfl (by first | rfl | (simp only [List.map_cons, List.map_nil, TModuleStep.agg_eq]; done) | (simp only [List.map_cons, List.map_nil, TModuleStep.agg_eq]; rfl)) ?_))
  refine cc' h1 fun hk22 h1 => mO rfl (op_appV eTModuleStep f15 [r19.1] rfl rfl rfl rfl rfl rfl rfl rfl rfl rfl rfl rfl rfl (fun x => congrArg List.length (TModuleStep.cells_eq x)) rfl rfl rfl rfl hk22 ?_)
  refine nx 8 rfl (oS rfl rfl ?_)
  refine nx 1 rfl (fD [34] h1 rfl (fun c23 h1 => ?_) fun c23 h1 => ?_)
  ·refine nx 7 rfl (mG (gE (t := ⟨[(2, .ptr 2 0), (3, .p (eB true))], [(2, [.vec 30 4 0 ((f15 ++ [r19.1]).map eTModuleStep), .p (eB false), .p (eS ([] : Bytes)), .p (eS ([] : Bytes)), .p (eI 0), .p (eI 0), .p (eS ([] : Bytes)), .p (eB false)])]⟩) rfl rfl) ?_)
   exact nx 1 rfl (mQ (hR0 _ (oi h1).symm) rfl (sub_tuple ⟨sub_aggs ⟨AV.sub_vec _ _ _ _, sr, sr, sr, sr, sr, sr, sr, trivial⟩, sr, trivial⟩))
  refine nx 6 rfl (oI h1 rfl fun hk24 h1 => ?_)
  refine nx 2 rfl (mG (gE (t := ⟨[(2, .ptr 2 0), (4, .ptr 4 0), (6, .p (eS r19.2.1)), (38, .p (eB (!decide (byt r19.2.1 0 = 46))))], [(2, [.p (.val (.slice none 0 0)), .p (eB false), .p (eS ([] : Bytes)), .p (eS ([] : Bytes)), .p (eI 0), .p (eI 0), .p (eS ([] : Bytes)), .p (eB false)]), (4, [.vec 30 4 0 ((f15 ++ [r19.1]).map eTModuleStep), .p (eB false), .p (eS ([] : Bytes)), .p (eS ([] : Bytes)), .p (eI 0), .p (eI 0), .p (eS ([] : Bytes)), .p (eB false)])]⟩) rfl rfl) ?_)
  refine fN [38] h1 rfl (fun c25 h1 => ?_) fun c25 h1 => ?_
  ·refine nx 4 rfl (oP h1 rfl rfl rfl fun hk26 h1 => ?_)
   exact nx 2 rfl (eX (sub r19.2.1 1 (r19.2.1.length : Int), f15 ++ [r19.1]) h1 (gE rfl rfl))
  exact nx 8 rfl (mQ (hR0 _ (oi h1).symm) rfl (sub_tuple ⟨sub_cells ⟨.inr ⟨rfl, rfl⟩, .inl rfl, .inl rfl, .inl rfl, .inl rfl, .inl rfl, .inl rfl, .inl rfl, trivial⟩, sr, trivial⟩))
 exact nx 2 rfl (eXi _ (oi h1).symm (gE rfl rfl))

def ref06_Parse (n : Nat) (s_0 : Bytes) : Option (TAddress × Int) :=
 (ref06_place n s_0).bind fun r1 =>
 (
   if (!r1.2) = true then
    some true
   else
    some (!r1.1.fWhole)
  : Option Bool).bind fun t4 =>
 if t4 = true then
  some ((TAddress.mk [] false ([] : Bytes) ([] : Bytes) (TKey.mk 0 0 ([] : Bytes))), 2)
 else
  if 16 < (r1.1.fAddr.fModule.length : Int) then
   some ((TAddress.mk [] false ([] : Bytes) ([] : Bytes) (TKey.mk 0 0 ([] : Bytes))), 4)
  else
   some (r1.1.fAddr, 0)

set_option maxHeartbeats 4000000 in
theorem ref06_Parse_ok (n : Nat) (s_0 : Bytes) (r : TAddress × Int) (h0 : ref06_Parse n s_0 = some r) : PCalls Tryz.prog 16 [eS s_0] (· = .tuple [.p (.agg (TAddress.cs r.1)), .p (eI r.2)]) := by
 unfold ref06_Parse at h0
 refine pbodyA good Tryz.func16 rfl rfl rfl fun w0 => mP (fun v : TAddress × Int => .tuple [.p (.agg (TAddress.cs v.1)), .p (eI v.2)]) ?_
 refine nx 8 rfl (bd h0 fun r1 e2 h0 => ?_)
 refine oK (ref06_place_ok _ s_0 _ e2) rfl ⟨sr, trivial⟩ Tryz.call43 rfl (nx 9 rfl ?_)
 refine bd h0 fun o8 h1 h0 => kN o8 (fun v9 => ⟨[(2, .ptr 2 0), (4, .ptr 4 0), (17, .p (eB v9))], [(2, [.p (.val (.slice none 0 0)), .p (eB false), .p (eS ([] : Bytes)), .p (eS ([] : Bytes)), .p (eI 0), .p (eI 0), .p (eS ([] : Bytes))]), (4, [.p (eL eTModuleStep r1.1.fAddr.fModule), .p (eB r1.1.fAddr.fData), .p (eS r1.1.fAddr.fType), .p (eS r1.1.fAddr.fName), .p (eI r1.1.fAddr.fKey.fKind), .p (eI r1.1.fAddr.fKey.fNum), .p (eS r1.1.fAddr.fKey.fStr), .p (eB r1.1.fWhole)])]⟩) ?_ ?_
 ·refine nx 1 rfl (fB [17] h0 rfl (fun c5 h0 => ?_) fun c5 h0 => ?_)
  ·exact nx 8 rfl (mQ (oi h0) rfl (sub_tuple ⟨sub_cells ⟨.inr ⟨rfl, rfl⟩, .inl rfl, .inl rfl, .inl rfl, .inl rfl, .inl rfl, .inl rfl, trivial⟩, sr, trivial⟩))
  refine nx 8 rfl (oLl (f := eTModuleStep) rfl rfl ?_)
  refine nx 2 rfl (fD [23] h0 rfl (fun c6 h0 => ?_) fun c6 h0 => ?_)
  ·exact nx 8 rfl (mQ (oi h0) rfl (sub_tuple ⟨sub_cells ⟨.inr ⟨rfl, rfl⟩, .inl rfl, .inl rfl, .inl rfl, .inl rfl, .inl rfl, .inl rfl, trivial⟩, sr, trivial⟩))
  exact nx 10 rfl (mQ (oi h0) rfl (sub_tuple ⟨sr, sr, trivial⟩))
 refine nx 4 rfl (fB [12, 13] h1 rfl (fun c3 h1 => ?_) fun c3 h1 => ?_)
 ·exact nx 5 rfl (eX _ (oi h1).symm (gE rfl rfl))
 exact nx 5 rfl (eX _ (oi h1).symm (gE rfl rfl))

def ref06_Bare_l1 (a_0 : TAddress) : Nat → Int → (List TModuleStep) → Option (List TModuleStep)
 | 0, _, _ => none
 | m + 1, i7, f8 =>
 if i7 < (a_0.fModule.length : Int) then
  ck ((0 : Int) ≤ i7 ∧ i7 < (a_0.fModule.length : Int)) <|
  ck ((f8.length + ([(TModuleStep.mk ((lat a_0.fModule i7).fName) (TKey.mk 0 0 ([] : Bytes)))]).length) * 48 ≤ 140737488355328) <|
  ck (inR (i7 + 1)) <|
  ref06_Bare_l1 a_0 m (i7 + 1) (f8 ++ ([(TModuleStep.mk ((lat a_0.fModule i7).fName) (TKey.mk 0 0 ([] : Bytes)))]))
 else
  some f8

def ref06_Bare (n : Nat) (a_0 : TAddress) : Option TAddress :=
 (ref06_Bare_l1 a_0 n 0 []).bind fun f15 =>
 some (TAddress.mk f15 a_0.fData a_0.fType a_0.fName (TKey.mk 0 0 ([] : Bytes)))

set_option maxHeartbeats 4000000 in
theorem ref06_Bare_ok (n : Nat) (a_0 : TAddress) (r : TAddress) (h0 : ref06_Bare n a_0 = some r) : PCalls Tryz.prog 45 [.agg (TAddress.cs a_0)] (· = .p (.agg (TAddress.cs r))) := by
 unfold ref06_Bare at h0
 refine pbodyA good Tryz.func45 rfl rfl rfl fun w0 => mP (fun v : TAddress => .p (.agg (TAddress.cs v))) ?_
 refine nx 23 rfl (bd h0 fun o17 h1 h0 => ?_)
 refine kE 0 o17 (fun v18 => ⟨[(2, .ptr 2 0), (3, .ptr 3 0)], [(2, [.p (.val (.slice none 0 0)), .p (eB false), .p (eS ([] : Bytes)), .p (eS ([] : Bytes)), .p (eI 0), .p (eI 0), .p (eS ([] : Bytes))]), (3, [.vec 29 4 0 (v18.map eTModuleStep), .p (eB a_0.fData), .p (eS a_0.fType), .p (eS a_0.fName), .p (eI 0), .p (eI 0), .p (eS ([] : Bytes))])]⟩) ?_ ?_
 ·exact nx 7 rfl (mQ (oi h0) rfl (sub_aggs ⟨AV.sub_vec _ _ _ _, sr, sr, sr, sr, sr, sr, trivial⟩))
 refine lG (fun (q19 : Int × (List TModuleStep)) => ⟨[(1, .ptr 1 0), (2, .ptr 2 0), (3, .ptr 3 0), (4, .p (eI q19.1))], [(1, [.p (eL eTModuleStep a_0.fModule), .p (eB a_0.fData), .p (eS a_0.fType), .p (eS a_0.fName), .p (eI a_0.fKey.fKind), .p (eI a_0.fKey.fNum), .p (eS a_0.fKey.fStr)]), (2, [.p (.val (.slice none 0 0)), .p (eB false), .p (eS ([] : Bytes)), .p (eS ([] : Bytes)), .p (eI 0), .p (eI 0), .p (eS ([] : Bytes))]), (3, [.vec 29 4 0 (q19.2.map eTModuleStep), .p (eB a_0.fData), .p (eS a_0.fType), .p (eS a_0.fName), .p (eI 0), .p (eI 0), .p (eS ([] : Bytes))])]⟩) (fun m (q19 : Int × (List TModuleStep)) => ref06_Bare_l1 a_0 m q19.1 q19.2) (fun _ => rfl) (0, []) h1 (ghost_le (le_mk ⟨er rfl, er rfl, er rfl, er rfl, trivial⟩ ⟨⟨_, rfl, ⟨sr, sr, sr, sr, sr, sr, sr, trivial⟩⟩, ⟨_, rfl, ⟨sr, sr, sr, sr, sr, sr, sr, trivial⟩⟩, ⟨_, rfl, ⟨AV.sub_nilvec _ _ _, sr, sr, sr, sr, sr, sr, trivial⟩⟩, trivial⟩)) ?_
 rintro m ⟨i7, f8⟩ h1
 replace h1 : ref06_Bare_l1 a_0 (m + 1) i7 f8 = some o17 := h1
 rw [ref06_Bare_l1] at h1
 refine nx 6 rfl (oLl (f := eTModuleStep) rfl rfl ?_)
 refine nx 2 rfl (fD [16] h1 rfl (fun c9 h1 => ?_) fun c9 h1 => ?_)
 ·refine nx 4 rfl (cc' h1 fun hk10 h1 => ?_)
  refine cc' h1 fun hk11 h1 => mG (gE (t := ⟨[(1, .ptr 1 0), (2, .ptr 2 0), (3, .ptr 3 0), (4, .p (eI i7))], [(1, [.p (eL eTModuleStep a_0.fModule), .p (eB a_0.fData), .p (eS a_0.fType), .p (eS a_0.fName), .p (eI a_0.fKey.fKind), .p (eI a_0.fKey.fNum), .p (eS a_0.fKey.fStr)]), (2, [.p (.val (.slice none 0 0)), .p (eB false), .p (eS ([] : Bytes)), .p (eS ([] : Bytes)), .p (eI 0), .p (eI 0), .p (eS ([] : Bytes))]), (3, [.vec 29 4 0 (f8.map eTModuleStep), .p (eB a_0.fData), .p (eS a_0.fType), .p (eS a_0.fName), .p (eI 0), .p (eI 0), .p (eS ([] : Bytes))])]⟩) rfl rfl) (mS ⟨2, [10, 12], (by3 (some fun i => Nat.beq i 29 || Nat.beq i 29) none none), (fun _ => [(1, .ptr 1 0), (2, .ptr 2 0), (3, .ptr 3 0), (4, .p (eI i7))]), (by3 ([(1, [.p (eL eTModuleStep a_0.fModule), .p (eB a_0.fData), .p (eS a_0.fType), .p (eS a_0.fName), .p (eI a_0.fKey.fKind), .p (eI a_0.fKey.fNum), .p (eS a_0.fKey.fStr)]), (2, [.p (.val (.slice none 0 0)), .p (eB false), .p (eS ([] : Bytes)), .p (eS ([] : Bytes)), .p (eI 0), .p (eI 0), .p (eS ([] : Bytes))]), (3, [.vec 29 4 0 (f8.map eTModuleStep), .p (eB a_0.fData), .p (eS a_0.fType), .p (eS a_0.fName), .p (eI 0), .p (eI 0), .p (eS ([] : Bytes))])]) ([(1, [.p (eL eTModuleStep a_0.fModule), .p (eB a_0.fData), .p (eS a_0.fType), .p (eS a_0.fName), .p (eI a_0.fKey.fKind), .p (eI a_0.fKey.fNum), .p (eS a_0.fKey.fStr)]), (2, [.p (.val (.slice none 0 0)), .p (eB false), .p (eS ([] : Bytes)), .p (eS ([] : Bytes)), .p (eI 0), .p (eI 0), .p (eS ([] : Bytes))]), (3, [.p (eL eTModuleStep f8), .p (eB a_0.fData), .p (eS a_0.fType), .p (eS a_0.fName), .p (eI 0), .p (eI 0), .p (eS ([] : Bytes))])]) ([(3, [.vec 29 4 0 ((f8 ++ ([(TModuleStep.mk ((lat a_0.fModule i7).fName) (TKey.mk 0 0 ([] : Bytes)))])).map eTModuleStep), .p (eB a_0.fData), .p (eS a_0.fType), .p (eS a_0.fName), .p (eI 0), .p (eI 0), .p (eS ([] : Bytes))]), (1, [.p (eL eTModuleStep a_0.fModule), .p (eB a_0.fData), .p (eS a_0.fType), .p (eS a_0.fName), .p (eI a_0.fKey.fKind), .p (eI a_0.fKey.fNum), .p (eS a_0.fKey.fStr)]), (2, [.p (.val (.slice none 0 0)), .p (eB false), .p (eS ([] : Bytes)), .p (eS ([] : Bytes)), .p (eI 0), .p (eI 0), .p (eS ([] : Bytes))]), (3, [.p (eL eTModuleStep f8), .p (eB a_0.fData), .p (eS a_0.fType), .p (eS a_0.fName), .p (eI 0), .p (eI 0), .p (eS ([] : Bytes))])]))⟩ rfl rfl rfl ⟨rfl, rfl, rfl, rfl, trivial⟩ (lt2 ⟨rfl, rfl, rfl, rfl, trivial⟩ ⟨rfl, rfl, rfl, rfl, trivial⟩) rfl rfl rfl rfl ?_)
  refine ds_pure (fun _ => .ptr 3 0) rfl rfl rfl (all3 rfl rfl (fun _ => rfl)) (lt2 rfl rfl) (stg_no rfl (stg_yes [(3, _)] ⟨.inl rfl, trivial⟩ (fun sl hsl K hK => one_op rfl (ok_fieldAddrP rfl rfl rfl rfl rfl rfl rfl rfl (hsl _ _ rfl) hK)) (stg_yes [(3, _)] ⟨.inl rfl, trivial⟩ (fun sl hsl K hK => one_op rfl (ok_fieldAddrP rfl rfl rfl rfl rfl rfl rfl rfl (hsl _ _ rfl) hK)) stg_nil))) (ds_pure (by3 (.vec 29 4 0 (f8.map eTModuleStep)) (.p (eL eTModuleStep f8)) (.p (eL eTModuleStep f8))) rfl rfl rfl (all3 rfl rfl (fun _ => rfl)) (lt2 rfl rfl) (stg_no rfl (stg_no rfl (stg_yes [(19, _)] ⟨.inr ⟨0, _, rfl, rfl, rfl⟩, trivial⟩ (fun sl hsl K hK => one_op rfl (ok_loadP1 rfl rfl rfl rfl rfl (hsl _ _ rfl) rfl rfl hK)) stg_nil))) ?_)
  refine ds_pure (fun _ => .ptr 1 0) rfl rfl rfl (all3 rfl rfl (fun _ => rfl)) (lt2 rfl rfl) (stg_no rfl (stg_yes [(1, _)] ⟨.inl rfl, trivial⟩ (fun sl hsl K hK => one_op rfl (ok_fieldAddrP rfl rfl rfl rfl rfl rfl rfl rfl (hsl _ _ rfl) hK)) (stg_yes [(1, _)] ⟨.inl rfl, trivial⟩ (fun sl hsl K hK => one_op rfl (ok_fieldAddrP rfl rfl rfl rfl rfl rfl rfl rfl (hsl _ _ rfl) hK)) stg_nil))) (ds_pure (fun _ => .p (eL eTModuleStep a_0.fModule)) rfl rfl rfl (all3 rfl rfl (fun _ => rfl)) (lt2 rfl rfl) (stg_no rfl (stg_yes [(21, _)] ⟨.inr ⟨2, _, rfl, rfl, rfl⟩, trivial⟩ (fun sl hsl K hK => one_op rfl (ok_loadP1 rfl rfl rfl rfl rfl (hsl _ _ rfl) rfl rfl hK)) (stg_yes [(21, _)] ⟨.inr ⟨2, _, rfl, rfl, rfl⟩, trivial⟩ (fun sl hsl K hK => one_op rfl (ok_loadP1 rfl rfl rfl rfl rfl (hsl _ _ rfl) rfl rfl hK)) stg_nil))) ?_)
  refine ds_pure (fun _ => .p (eI i7)) rfl rfl rfl (all3 rfl rfl (fun _ => rfl)) (lt2 rfl rfl) (stg_no rfl (stg_yes [(4, _)] ⟨.inl rfl, trivial⟩ (fun sl hsl K hK => one_op rfl (ok_move rfl rfl rfl (hsl _ _ rfl) hK)) (stg_yes [(4, _)] ⟨.inl rfl, trivial⟩ (fun sl hsl K hK => one_op rfl (ok_move rfl rfl rfl (hsl _ _ rfl) hK)) stg_nil))) (ds_pure (fun _ => .rptr (TModuleStep.cs (lat a_0.fModule i7))) rfl rfl rfl (all3 rfl rfl (fun _ => rfl)) (lt2 rfl rfl) (stg_no rfl (stg_yes [(22, _), (23, _)] ⟨.inr ⟨3, _, rfl, rfl, rfl⟩, .inr ⟨4, _, rfl, rfl, rfl⟩, trivial⟩ (fun sl hsl K hK => one_op rfl (op_at (f := eTModuleStep) (l := a_0.fModule) TModuleStep.cs rfl rfl rfl rfl rfl rfl (hsl _ _ rfl) rfl (hsl _ _ rfl) hk10 TModuleStep.cells_eq (fun _ => rfl) hK)) (stg_yes [(22, _), (23, _)] ⟨.inr ⟨3, _, rfl, rfl, rfl⟩, .inr ⟨4, _, rfl, rfl, rfl⟩, trivial⟩ (fun sl hsl K hK => one_op rfl (op_at (f := eTModuleStep) (l := a_0.fModule) TModuleStep.cs rfl rfl rfl rfl rfl rfl (hsl _ _ rfl) rfl (hsl _ _ rfl) hk10 TModuleStep.cells_eq (fun _ => rfl) hK)) stg_nil))) ?_)
  refine ds_pure (fun _ => .rptr (List.drop 0 (TModuleStep.cs (lat a_0.fModule i7)))) rfl rfl rfl (all3 rfl rfl (fun _ => rfl)) (lt2 rfl rfl) (stg_no rfl (stg_yes [(24, _)] ⟨.inr ⟨5, _, rfl, rfl, rfl⟩, trivial⟩ (fun sl hsl K hK => one_op rfl (ok_fieldAddrR rfl rfl rfl rfl rfl rfl rfl rfl (hsl _ _ rfl) hK)) (stg_yes [(24, _)] ⟨.inr ⟨5, _, rfl, rfl, rfl⟩, trivial⟩ (fun sl hsl K hK => one_op rfl (ok_fieldAddrR rfl rfl rfl rfl rfl rfl rfl rfl (hsl _ _ rfl) hK)) stg_nil))) (ds_pure (fun _ => .p (eS ((lat a_0.fModule i7).fName))) rfl rfl rfl (all3 rfl rfl (fun _ => rfl)) (lt2 rfl rfl) (stg_no rfl (stg_yes [(25, _)] ⟨.inr ⟨6, _, rfl, rfl, rfl⟩, trivial⟩ (fun sl hsl K hK => one_op rfl (ok_loadR1 rfl rfl rfl rfl rfl (hsl _ _ rfl) rfl hK)) (stg_yes [(25, _)] ⟨.inr ⟨6, _, rfl, rfl, rfl⟩, trivial⟩ (fun sl hsl K hK => one_op rfl (ok_loadR1 rfl rfl rfl rfl rfl (hsl _ _ rfl) rfl hK)) stg_nil))) ?_)
  refine ds_pure (fun _ => .p (.agg [eS ((lat a_0.fModule i7).fName), eI 0, eI 0, eS ([] : Bytes)])) rfl rfl rfl (all3 rfl rfl (fun _ => rfl)) (lt2 rfl rfl) (stg_no rfl (stg_yes [(26, _)] ⟨.inr ⟨7, _, rfl, rfl, rfl⟩, trivial⟩ (fun sl hsl K hK => one_op rfl (ok_build rfl rfl rfl rfl rfl rfl (parts_cons (hsl _ _ rfl) parts_nil) rfl rfl hK)) (stg_yes [(26, _)] ⟨.inr ⟨7, _, rfl, rfl, rfl⟩, trivial⟩ (fun sl hsl K hK => one_op rfl (ok_build rfl rfl rfl rfl rfl rfl (parts_cons (hsl _ _ rfl) parts_nil) rfl rfl hK)) stg_nil))) (ds_pure (fun _ => .p (eL eTModuleStep ([(TModuleStep.mk ((lat a_0.fModule i7).fName) (TKey.mk 0 0 ([] : Bytes)))]))) rfl rfl rfl (all3 rfl rfl (fun _ => rfl)) (lt2 rfl rfl) (stg_no rfl (stg_no rfl (stg_yes [(27, _)] ⟨.inr ⟨8, _, rfl, rfl, rfl⟩, trivial⟩ (fun sl hsl K hK => one_op rfl (op_bslice eTModuleStep [(TModuleStep.mk ((lat a_0.fModule i7).fName) (TKey.mk 0 0 ([] : Bytes)))] rfl rfl rfl rfl rfl rfl (elems_cons (hsl _ _ rfl) rfl elems_nil) rfl rfl rfl rfl rfl rfl (by first | rfl | (simp only [List.map_cons, List.map_nil, TModuleStep.agg_eq]; done) | (simp only [List.map_cons, List.map_nil, TModuleStep.agg_eq]; rfl)) hK)) stg_nil))) ?_)
  refine ds_imp (fun _ => .vec 29 4 0 ((f8 ++ ([(TModuleStep.mk ((lat a_0.fModule i7).fName) (TKey.mk 0 0 ([] : Bytes)))])).map eTModuleStep)) [(20, _), (28, _)] rfl ⟨.inr ⟨1, _, rfl, rfl, rfl⟩, .inr ⟨9, _, rfl, rfl, rfl⟩, trivial⟩ rfl rfl (fun _ => rfl) (lt2 (fun h => absurd h (by decide)) (fun _ => rfl)) (fun sl hsl K hK => one_op rfl (op_appV eTModuleStep f8 ([(TModuleStep.mk ((lat a_0.fModule i7).fName) (TKey.mk 0 0 ([] : Bytes)))]) rfl rfl rfl rfl rfl rfl rfl rfl (hsl _ _ rfl) rfl rfl (hsl _ _ rfl) rfl (fun x => congrArg List.length (TModuleStep.cells_eq x)) rfl rfl rfl rfl hk11 hK)) (ds_pure (fun _ => .ptr 3 0) rfl rfl rfl (all3 rfl rfl (fun _ => rfl)) (lt2 rfl rfl) (stg_no rfl (stg_yes [(3, _)] ⟨.inl rfl, trivial⟩ (fun sl hsl K hK => one_op rfl (ok_fieldAddrP rfl rfl rfl rfl rfl rfl rfl rfl (hsl _ _ rfl) hK)) (stg_no rfl stg_nil))) ?_)
  refine ds_store [(29, _), (30, _)] rfl ⟨.inr ⟨10, _, rfl, rfl, rfl⟩, .inr ⟨11, _, rfl, rfl, rfl⟩, trivial⟩ rfl (fun sl hsl K hK => one_op rfl (ok_store rfl rfl rfl (hsl _ _ rfl) (hsl _ _ rfl) rfl rfl rfl (Nat.le_of_ble_eq_true rfl) hK)) (ds_nil ?_)
  refine nx 3 rfl (oA h1 rfl rfl fun hk12 h1 => ?_)
  exact nx 2 rfl (eX (i7 + 1, f8 ++ ([(TModuleStep.mk ((lat a_0.fModule i7).fName) (TKey.mk 0 0 ([] : Bytes)))])) h1 (gE rfl rfl))
 exact nx 2 rfl (eXi _ (oi h1).symm (gE rfl rfl))

def ref06_Static (n : Nat) (s_0 : Bytes) : Option (Bytes × Int) :=
 (ref06_Parse n s_0).bind fun r1 =>
 if r1.2 = 0 then
  (ref06_Bare n r1.1).bind fun r4 =>
  (ref06_Format n r4).bind fun r6 =>
  some (r6, 0)
 else
  some (([] : Bytes), r1.2)

set_option maxHeartbeats 4000000 in
theorem ref06_Static_ok (n : Nat) (s_0 : Bytes) (r : Bytes × Int) (h0 : ref06_Static n s_0 = some r) : PCalls Tryz.prog 18 [eS s_0] (· = .tuple [.p (eS r.1), .p (eI r.2)]) := by
 unfold ref06_Static at h0
 refine pbodyA good Tryz.func18 rfl rfl rfl fun w0 => mP (fun v : Bytes × Int => .tuple [.p (eS v.1), .p (eI v.2)]) ?_
 refine nx 8 rfl (bd h0 fun r1 e2 h0 => ?_)
 refine oK (ref06_Parse_ok _ s_0 _ e2) rfl ⟨sr, trivial⟩ Tryz.call16 rfl (nx 13 rfl ?_)
 refine fN [12] h0 rfl (fun c3 h0 => ?_) fun c3 h0 => ?_
 ·refine nx 5 rfl (bd h0 fun r4 e5 h0 => ?_)
  refine oK (ref06_Bare_ok _ r1.1 _ e5) rfl ⟨sr, trivial⟩ Tryz.call45 rfl (bd h0 fun r6 e7 h0 => ?_)
  refine oK (ref06_Format_ok _ r4 _ e7) rfl ⟨sr, trivial⟩ Tryz.call12 rfl (nx 4 rfl ?_)
  exact mQ (oi h0) rfl (sub_tuple ⟨sr, sr, trivial⟩)
 exact nx 8 rfl (mQ (oi h0) rfl (sub_tuple ⟨sr, sr, trivial⟩))

def law06_AddressParses (n : Nat) (s_0 : Bytes) : Option Bool :=
 if 3000 < (s_0.length : Int) then
  (law06_awake n).bind fun r2 =>
  some r2
 else
  (address_Parse n s_0).bind fun r4 =>
  (ref06_Parse n s_0).bind fun r6 =>
  (address_Static n s_0).bind fun r8 =>
  (ref06_Static n s_0).bind fun r10 =>
  (
    if r4.2 = r6.2 then
     (law06_Same n r4.1 r6.1).bind fun r13 =>
     if r13 = true then
      if r8.2 = r10.2 then
       if r8.1 = r10.1 then
        (law06_awake n).bind fun r18 =>
        some r18
       else
        some false
      else
       some false
     else
      some false
    else
     some false
   : Option Bool).bind fun t20 =>
  some t20

set_option maxHeartbeats 4000000 in
theorem law06_AddressParses_ok (n : Nat) (s_0 : Bytes) (r : Bool) (h0 : law06_AddressParses n s_0 = some r) : PCalls Tryz.prog 4 [eS s_0] (· = .p (eB r)) := by
 unfold law06_AddressParses at h0
 refine pbodyA good Tryz.func4 rfl rfl rfl fun w0 => mP (fun v : Bool => .p (eB v)) ?_
 refine nx 8 rfl (oLs rfl ?_)
 refine nx 2 rfl (fD [13] h0 rfl (fun c1 h0 => ?_) fun c1 h0 => ?_)
 ·refine nx 3 rfl (bd h0 fun r2 e3 h0 => ?_)
  refine oK (law06_awake_ok _  _ e3) rfl trivial Tryz.call8 rfl (nx 3 rfl ?_)
  exact mQ (oi h0) rfl (sr)
 refine nx 5 rfl (bd h0 fun r4 e5 h0 => ?_)
 refine oK (address_Parse_ok _ s_0 _ e5) rfl ⟨sr, trivial⟩ Tryz.call15 rfl (nx 10 rfl ?_)
 refine bd h0 fun r6 e7 h0 => oK (ref06_Parse_ok _ s_0 _ e7) rfl ⟨sr, trivial⟩ Tryz.call16 rfl (nx 10 rfl ?_)
 refine bd h0 fun r8 e9 h0 => oK (address_Static_ok _ s_0 _ e9) rfl ⟨sr, trivial⟩ Tryz.call17 rfl (nx 9 rfl ?_)
 refine bd h0 fun r10 e11 h0 => oK (ref06_Static_ok _ s_0 _ e11) rfl ⟨sr, trivial⟩ Tryz.call18 rfl (nx 6 rfl ?_)
 refine mG (gE (t := ⟨[(3, .ptr 3 0), (4, .p (eI r4.2)), (5, .ptr 5 0), (6, .p (eI r6.2)), (7, .p (eS r8.1)), (8, .p (eI r8.2)), (9, .p (eS r10.1)), (10, .p (eI r10.2))], [(3, [.p (eL eTModuleStep r4.1.fModule), .p (eB r4.1.fData), .p (eS r4.1.fType), .p (eS r4.1.fName), .p (eI r4.1.fKey.fKind), .p (eI r4.1.fKey.fNum), .p (eS r4.1.fKey.fStr)]), (5, [.p (eL eTModuleStep r6.1.fModule), .p (eB r6.1.fData), .p (eS r6.1.fType), .p (eS r6.1.fName), .p (eI r6.1.fKey.fKind), .p (eI r6.1.fKey.fNum), .p (eS r6.1.fKey.fStr)])]⟩) rfl rfl) (nx 1 rfl ?_)
 refine bd h0 fun o22 h1 h0 => kN o22 (fun v23 => ⟨[(2, .p (eB v23))], []⟩) ?_ ?_
 ·exact nx 2 rfl (mQ (oi h0) rfl (sr))
 refine nx 5 rfl (fD [37, 38] h1 rfl (fun c12 h1 => ?_) fun c12 h1 => ?_)
 ·refine nx 2 rfl (bd h1 fun r13 e14 h1 => ?_)
  refine oK (law06_Same_ok _ r4.1 r6.1 _ e14) rfl ⟨sr, sr, trivial⟩ Tryz.call19 rfl (nx 2 rfl ?_)
  refine fB [41, 42, 43] h1 rfl (fun c15 h1 => ?_) fun c15 h1 => ?_
  ·refine nx 5 rfl (fD [46, 47, 48] h1 rfl (fun c16 h1 => ?_) fun c16 h1 => ?_)
   ·refine nx 2 rfl (oS rfl rfl ?_)
    refine nx 2 rfl (fD [51, 52, 53] h1 rfl (fun c17 h1 => ?_) fun c17 h1 => ?_)
    ·refine bd h1 fun r18 e19 h1 => oK (law06_awake_ok _  _ e19) rfl trivial Tryz.call8 rfl (nx 3 rfl ?_)
     exact eX _ (oi h1).symm (gE rfl rfl)
    exact nx 4 rfl (eX _ (oi h1).symm (gE rfl rfl))
   exact nx 9 rfl (eX _ (oi h1).symm (gE rfl rfl))
  exact nx 14 rfl (eX _ (oi h1).symm (gE rfl rfl))
 exact nx 19 rfl (eX _ (oi h1).symm (gE rfl rfl))

end Go.Ab.R06
