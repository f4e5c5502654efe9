/- Chapter 16. -/
import Derived.Test.YtmdefcidhgbikaaGreatDoorR02
set_option linter.unusedVariables false
set_option linter.unusedSimpArgs false
set_option linter.unnecessarySimpa false
namespace Go.Ab.R06
open Go.Proofs Go.Ab Go.Ab.RB
attribute [local irreducible] awp rwpL OpOk PCalls OCalls AV.sub M Ghost
def ref02_digits : Nat → Int → Option Bytes
 | 0, _ => none
 | n + 1, c_0 =>
 ck ((16 : Int) ≠ 0) <|
 ck ((16 : Int) ≠ 0) <|
 ck (inR ((c_0.tmod 16) + 1)) <|
 ck ((0 : Int) ≤ c_0.tmod 16 ∧ c_0.tmod 16 ≤ (c_0.tmod 16) + 1 ∧ (c_0.tmod 16) + 1 ≤ (([48, 49, 50, 51, 52, 53, 54, 55, 56, 57, 97, 98, 99, 100, 101, 102] : Bytes).length : Int)) <|
 if c_0 < 16 then
  some (sub ([48, 49, 50, 51, 52, 53, 54, 55, 56, 57, 97, 98, 99, 100, 101, 102] : Bytes) (c_0.tmod 16) ((c_0.tmod 16) + 1))
 else
  ck ((16 : Int) ≠ 0) <|
  ((ref02_digits n) (IntKind.wrap .i64 (c_0.tdiv 16))).bind fun r7 =>
  ck (r7.length + (sub ([48, 49, 50, 51, 52, 53, 54, 55, 56, 57, 97, 98, 99, 100, 101, 102] : Bytes) (c_0.tmod 16) ((c_0.tmod 16) + 1)).length ≤ 9223372036854775807) <|
  some (r7 ++ (sub ([48, 49, 50, 51, 52, 53, 54, 55, 56, 57, 97, 98, 99, 100, 101, 102] : Bytes) (c_0.tmod 16) ((c_0.tmod 16) + 1)))
set_option maxHeartbeats 4000000 in
theorem ref02_digits_ok (n : Nat) : ∀ (c_0 : Int) (r : Bytes), ref02_digits n c_0 = some r → PCalls Tryz.prog 161 [eI c_0] (· = .p (eS r)) := by
 induction n with
 | zero => intro c_0 r h0; cases h0
 | succ n ih =>
 have ih_ref02_digits_ok := ih
 intro c_0 r h0
 rw [ref02_digits] at h0
 refine pbodyA good Tryz.func161 rfl rfl rfl fun w0 => mP (fun v : Bytes => .p (eS v)) ?_
 refine nx 7 rfl (cc' h0 fun hk1 h0 => ?_)
 refine mO rfl (ok_dv rfl rfl rfl rfl rfl rfl hk1 ?_)
 refine nx 1 rfl (cc' h0 fun hk2 h0 => ?_)
 refine mO rfl (ok_dv rfl rfl rfl rfl rfl rfl hk2 ?_)
 refine oA h0 rfl rfl fun hk3 h0 => oP h0 rfl rfl rfl fun hk4 h0 => nx 8 rfl (fD [11] h0 rfl (fun c5 h0 => ?_) fun c5 h0 => ?_)
 ·exact nx 7 rfl (mQ (oi h0) rfl (sr))
 refine nx 5 rfl (cc' h0 fun hk6 h0 => ?_)
 refine mO rfl (ok_dv rfl rfl rfl rfl rfl rfl hk6 ?_)
 refine bd h0 fun r7 e8 h0 => oK (ih_ref02_digits_ok (IntKind.wrap .i64 (c_0.tdiv 16)) _ e8) rfl ⟨sr, trivial⟩ Tryz.call161 rfl (nx 1 rfl ?_)
 exact oC h0 rfl fun hk9 h0 => nx 3 rfl (mQ (oi h0) rfl (sr))
def ref02_escaped (n : Nat) (b_0 : Int) : Option Bytes :=
 if b_0 = 10 then
  some ([92, 110] : Bytes)
 else
  if b_0 = 13 then
   some ([92, 114] : Bytes)
  else
   if b_0 = 9 then
    some ([92, 116] : Bytes)
   else
    if b_0 = 34 then
     some ([92, 34] : Bytes)
    else
     if b_0 = 92 then
      some ([92, 92] : Bytes)
     else
      (
        if b_0 < 32 then
         some true
        else
         some (decide (b_0 = 127))
       : Option Bool).bind fun t7 =>
      if t7 = true then
       ck (inR (b_0)) <|
       (ref02_digits n b_0).bind fun r10 =>
       ck (([92, 117, 123] : Bytes).length + r10.length ≤ 9223372036854775807) <|
       ck ((([92, 117, 123] : Bytes) ++ r10).length + ([125] : Bytes).length ≤ 9223372036854775807) <|
       some ((([92, 117, 123] : Bytes) ++ r10) ++ ([125] : Bytes))
      else
       ck ((0 : Int) ≤ b_0 ∧ b_0 < 256) <|
       some [u8 b_0]
set_option maxHeartbeats 4000000 in
theorem ref02_escaped_ok (n : Nat) (b_0 : Int) (r : Bytes) (h0 : ref02_escaped n b_0 = some r) : PCalls Tryz.prog 125 [eK .u8 b_0] (· = .p (eS r)) := by
 unfold ref02_escaped at h0
 refine pbodyA good Tryz.func125 rfl rfl rfl fun w0 => mP (fun v : Bytes => .p (eS v)) ?_
 refine nx 15 rfl (fD [4, 5] h0 rfl (fun c1 h0 => ?_) fun c1 h0 => ?_)
 ·exact nx 6 rfl (mQ (oi h0) rfl (sr))
 refine nx 6 rfl (fD [6, 7] h0 rfl (fun c2 h0 => ?_) fun c2 h0 => ?_)
 ·exact nx 6 rfl (mQ (oi h0) rfl (sr))
 refine nx 6 rfl (fD [8, 9] h0 rfl (fun c3 h0 => ?_) fun c3 h0 => ?_)
 ·exact nx 6 rfl (mQ (oi h0) rfl (sr))
 refine nx 6 rfl (fD [10, 11] h0 rfl (fun c4 h0 => ?_) fun c4 h0 => ?_)
 ·exact nx 6 rfl (mQ (oi h0) rfl (sr))
 refine nx 6 rfl (fD [12, 13] h0 rfl (fun c5 h0 => ?_) fun c5 h0 => ?_)
 ·exact nx 6 rfl (mQ (oi h0) rfl (sr))
 refine nx 4 rfl (bd h0 fun o16 h1 h0 => ?_)
 refine kN o16 (fun v17 => ⟨[(0, .p (eK .u8 b_0)), (19, .p (eB v17))], []⟩) ?_ ?_
 ·refine nx 1 rfl (fB [19] h0 rfl (fun c8 h0 => ?_) fun c8 h0 => ?_)
  ·refine nx 4 rfl (cc' h0 fun hk9 h0 => ?_)
   refine mO rfl (ok_convInt rfl rfl rfl rfl rfl rfl rfl rfl (wrap_in hk9) ?_)
   refine bd h0 fun r10 e11 h0 => oK (ref02_digits_ok _ b_0 _ e11) rfl ⟨sr, trivial⟩ Tryz.call161 rfl (oC h0 rfl fun hk12 h0 => ?_)
   exact oC h0 rfl fun hk13 h0 => nx 3 rfl (mQ (oi h0) rfl (sr))
  refine nx 5 rfl (cc' h0 fun hk14 h0 => ?_)
  refine mO rfl (op_bslice eU [u8 b_0] rfl rfl rfl rfl rfl rfl rfl rfl rfl rfl rfl rfl rfl (congr (congrArg List.cons (u8_of hk14)) rfl) ?_)
  refine mO rfl (op_convBS [u8 b_0] rfl rfl rfl rfl rfl rfl rfl rfl rfl rfl rfl ?_)
  exact nx 3 rfl (mQ (oi h0) rfl (sr))
 refine nx 4 rfl (fD [15, 16] h1 rfl (fun c6 h1 => ?_) fun c6 h1 => ?_)
 ·exact nx 4 rfl (eX _ (oi h1).symm (gE rfl rfl))
 exact nx 4 rfl (eX _ (oi h1).symm (gE rfl rfl))
def ref02_Quote_l1 (n : Nat) (s_0 : Bytes) : Nat → Bytes → Int → Option Bytes
 | 0, _, _ => none
 | m + 1, out9, i10 =>
 if i10 < (s_0.length : Int) then
  ck ((0 : Int) ≤ i10 ∧ i10 < (s_0.length : Int)) <|
  (ref02_escaped n (byt s_0 i10)).bind fun r13 =>
  ck (out9.length + r13.length ≤ 9223372036854775807) <|
  ck (inR (i10 + 1)) <|
  ref02_Quote_l1 n s_0 m (out9 ++ r13) (i10 + 1)
 else
  some out9
def ref02_Quote (n : Nat) (s_0 : Bytes) : Option Bytes :=
 (ref02_Quote_l1 n s_0 n ([34] : Bytes) 0).bind fun out19 =>
 ck (out19.length + ([34] : Bytes).length ≤ 9223372036854775807) <|
 some (out19 ++ ([34] : Bytes))
set_option maxHeartbeats 4000000 in
theorem ref02_Quote_ok (n : Nat) (s_0 : Bytes) (r : Bytes) (h0 : ref02_Quote n s_0 = some r) : PCalls Tryz.prog 90 [eS s_0] (· = .p (eS r)) := by
 unfold ref02_Quote at h0
 refine pbodyA good Tryz.func90 rfl rfl rfl fun w0 => mP (fun v : Bytes => .p (eS v)) ?_
 refine nx 14 rfl (bd h0 fun o22 h1 h0 => ?_)
 refine kE 0 o22 (fun v23 => ⟨[(3, .p (eS v23))], []⟩) ?_ ?_
 ·refine nx 4 rfl (oC h0 rfl fun hk20 h0 => ?_)
  exact nx 3 rfl (mQ (oi h0) rfl (sr))
 refine lG (fun (q24 : Bytes × Int) => ⟨[(0, .p (eS s_0)), (3, .p (eS q24.1)), (4, .p (eI q24.2))], []⟩) (fun m (q24 : Bytes × Int) => ref02_Quote_l1 n s_0 m q24.1 q24.2) (fun _ => rfl) (([34] : Bytes), 0) h1 (gE rfl rfl) ?_
 rintro m ⟨out9, i10⟩ h1
 replace h1 : ref02_Quote_l1 n s_0 (m + 1) out9 i10 = some o22 := h1
 rw [ref02_Quote_l1] at h1
 refine nx 5 rfl (oLs rfl ?_)
 refine nx 2 rfl (fD [8] h1 rfl (fun c11 h1 => ?_) fun c11 h1 => ?_)
 ·refine nx 8 rfl (oI h1 rfl fun hk12 h1 => ?_)
  refine bd h1 fun r13 e14 h1 => oK (ref02_escaped_ok _ (byt s_0 i10) _ e14) rfl ⟨sr, trivial⟩ Tryz.call125 rfl (oC h1 rfl fun hk15 h1 => ?_)
  refine nx 4 rfl (oA h1 rfl rfl fun hk16 h1 => ?_)
  exact nx 2 rfl (eX (out9 ++ r13, i10 + 1) h1 (gE rfl rfl))
 exact nx 2 rfl (eXi _ (oi h1).symm (gE rfl rfl))
def ref02_cont (s_0 : Bytes) (i_1 : Int) (lo_2 : Int) (hi_3 : Int) : Option Bool :=
 (
   if i_1 < (s_0.length : Int) then
    ck ((0 : Int) ≤ i_1 ∧ i_1 < (s_0.length : Int)) <|
    if lo_2 ≤ byt s_0 i_1 then
     ck ((0 : Int) ≤ i_1 ∧ i_1 < (s_0.length : Int)) <|
     some (decide (byt s_0 i_1 ≤ hi_3))
    else
     some false
   else
    some false
  : Option Bool).bind fun t5 =>
 some t5
set_option maxHeartbeats 4000000 in
theorem ref02_cont_ok (s_0 : Bytes) (i_1 : Int) (lo_2 : Int) (hi_3 : Int) (r : Bool) (h0 : ref02_cont s_0 i_1 lo_2 hi_3 = some r) : PCalls Tryz.prog 183 [eS s_0, eI i_1, eK .u8 lo_2, eK .u8 hi_3] (· = .p (eB r)) := by
 unfold ref02_cont at h0
 refine pbodyA good Tryz.func183 rfl rfl rfl fun w0 => mP (fun v : Bool => .p (eB v)) ?_
 refine nx 5 rfl (bd h0 fun o7 h1 h0 => ?_)
 refine kN o7 (fun v8 => ⟨[(8, .p (eB v8))], []⟩) ?_ ?_
 ·exact nx 2 rfl (mQ (oi h0) rfl (sr))
 refine nx 3 rfl (oLs rfl ?_)
 refine nx 2 rfl (fD [12, 13] h1 rfl (fun c1 h1 => ?_) fun c1 h1 => ?_)
 ·refine nx 2 rfl (oI h1 rfl fun hk2 h1 => ?_)
  refine nx 4 rfl (fD [18, 19, 20] h1 rfl (fun c3 h1 => ?_) fun c3 h1 => ?_)
  ·refine nx 2 rfl (oI h1 rfl fun hk4 h1 => ?_)
   exact nx 5 rfl (eX _ (oi h1).symm (gE rfl rfl))
  exact nx 8 rfl (eX _ (oi h1).symm (gE rfl rfl))
 exact nx 15 rfl (eX _ (oi h1).symm (gE rfl rfl))
def ref02_Decode (s_0 : Bytes) (i_1 : Int) : Option (Int × Int) :=
 (
   if i_1 < 0 then
    some true
   else
    some (decide ((s_0.length : Int) ≤ i_1))
  : Option Bool).bind fun t2 =>
 if t2 = true then
  some (0, 0)
 else
  ck ((0 : Int) ≤ i_1 ∧ i_1 < (s_0.length : Int)) <|
  if byt s_0 i_1 < 128 then
   ck (inR (byt s_0 i_1)) <|
   some (byt s_0 i_1, 1)
  else
   (
     if 194 ≤ byt s_0 i_1 then
      if byt s_0 i_1 ≤ 223 then
       ck (inR (i_1 + 1)) <|
       (ref02_cont s_0 (i_1 + 1) 128 191).bind fun r10 =>
       some r10
      else
       some false
     else
      some false
    : Option Bool).bind fun t12 =>
   if t12 = true then
    ck (inR (iAnd .u8 (byt s_0 i_1) 31)) <|
    ck ((0 : Int) ≤ 6) <|
    ck (inR (i_1 + 1)) <|
    ck ((0 : Int) ≤ i_1 + 1 ∧ i_1 + 1 < (s_0.length : Int)) <|
    ck (inR (iAnd .u8 (byt s_0 (i_1 + 1)) 63)) <|
    some (iOr .i64 (iShl .i64 (iAnd .u8 (byt s_0 i_1) 31) 6) (iAnd .u8 (byt s_0 (i_1 + 1)) 63), 2)
   else
    (
      if byt s_0 i_1 = 224 then
       some 160
      else
       some 128
     : Option Int).bind fun lo20 =>
    (
      if byt s_0 i_1 = 237 then
       some 159
      else
       some 191
     : Option Int).bind fun hi22 =>
    (
      if 224 ≤ byt s_0 i_1 then
       if byt s_0 i_1 ≤ 239 then
        ck (inR (i_1 + 1)) <|
        (ref02_cont s_0 (i_1 + 1) lo20 hi22).bind fun r26 =>
        if r26 = true then
         ck (inR (i_1 + 2)) <|
         (ref02_cont s_0 (i_1 + 2) 128 191).bind fun r30 =>
         some r30
        else
         some false
       else
        some false
      else
       some false
     : Option Bool).bind fun t32 =>
    if t32 = true then
     ck (inR (iAnd .u8 (byt s_0 i_1) 15)) <|
     ck ((0 : Int) ≤ 12) <|
     ck (inR (i_1 + 1)) <|
     ck ((0 : Int) ≤ i_1 + 1 ∧ i_1 + 1 < (s_0.length : Int)) <|
     ck (inR (iAnd .u8 (byt s_0 (i_1 + 1)) 63)) <|
     ck ((0 : Int) ≤ 6) <|
     ck (inR (i_1 + 2)) <|
     ck ((0 : Int) ≤ i_1 + 2 ∧ i_1 + 2 < (s_0.length : Int)) <|
     ck (inR (iAnd .u8 (byt s_0 (i_1 + 2)) 63)) <|
     some (iOr .i64 (iOr .i64 (iShl .i64 (iAnd .u8 (byt s_0 i_1) 15) 12) (iShl .i64 (iAnd .u8 (byt s_0 (i_1 + 1)) 63) 6)) (iAnd .u8 (byt s_0 (i_1 + 2)) 63), 3)
    else
     (
       if byt s_0 i_1 = 240 then
        some 144
       else
        some 128
      : Option Int).bind fun lo44 =>
     (
       if byt s_0 i_1 = 244 then
        some 143
       else
        some 191
      : Option Int).bind fun hi46 =>
     (
       if 240 ≤ byt s_0 i_1 then
        if byt s_0 i_1 ≤ 244 then
         ck (inR (i_1 + 1)) <|
         (ref02_cont s_0 (i_1 + 1) lo44 hi46).bind fun r50 =>
         if r50 = true then
          ck (inR (i_1 + 2)) <|
          (ref02_cont s_0 (i_1 + 2) 128 191).bind fun r54 =>
          if r54 = true then
           ck (inR (i_1 + 3)) <|
           (ref02_cont s_0 (i_1 + 3) 128 191).bind fun r58 =>
           some r58
          else
           some false
         else
          some false
        else
         some false
       else
        some false
      : Option Bool).bind fun t60 =>
     if t60 = true then
      ck (inR (iAnd .u8 (byt s_0 i_1) 7)) <|
      ck ((0 : Int) ≤ 18) <|
      ck (inR (i_1 + 1)) <|
      ck ((0 : Int) ≤ i_1 + 1 ∧ i_1 + 1 < (s_0.length : Int)) <|
      ck (inR (iAnd .u8 (byt s_0 (i_1 + 1)) 63)) <|
      ck ((0 : Int) ≤ 12) <|
      ck (inR (i_1 + 2)) <|
      ck ((0 : Int) ≤ i_1 + 2 ∧ i_1 + 2 < (s_0.length : Int)) <|
      ck (inR (iAnd .u8 (byt s_0 (i_1 + 2)) 63)) <|
      ck ((0 : Int) ≤ 6) <|
      ck (inR (i_1 + 3)) <|
      ck ((0 : Int) ≤ i_1 + 3 ∧ i_1 + 3 < (s_0.length : Int)) <|
      ck (inR (iAnd .u8 (byt s_0 (i_1 + 3)) 63)) <|
      some (iOr .i64 (iOr .i64 (iOr .i64 (iShl .i64 (iAnd .u8 (byt s_0 i_1) 7) 18) (iShl .i64 (iAnd .u8 (byt s_0 (i_1 + 1)) 63) 12)) (iShl .i64 (iAnd .u8 (byt s_0 (i_1 + 2)) 63) 6)) (iAnd .u8 (byt s_0 (i_1 + 3)) 63), 4)
     else
      some (0, 0)
set_option maxHeartbeats 4000000 in
theorem ref02_Decode_ok (s_0 : Bytes) (i_1 : Int) (r : Int × Int) (h0 : ref02_Decode s_0 i_1 = some r) : PCalls Tryz.prog 155 [eS s_0, eI i_1] (· = .tuple [.p (eI r.1), .p (eI r.2)]) := by
 unfold ref02_Decode at h0
 refine pbodyA good Tryz.func155 rfl rfl rfl fun w0 => mP (fun v : Int × Int => .tuple [.p (eI v.1), .p (eI v.2)]) ?_
 refine nx 7 rfl (bd h0 fun o83 h1 h0 => ?_)
 refine kN o83 (fun v84 => ⟨[(0, .p (eS s_0)), (1, .p (eI i_1)), (16, .p (eB v84))], []⟩) ?_ ?_
 ·refine nx 1 rfl (fB [16] h0 rfl (fun c3 h0 => ?_) fun c3 h0 => ?_)
  ·exact nx 7 rfl (mQ (oi h0) rfl (sub_tuple ⟨sr, sr, trivial⟩))
  refine nx 6 rfl (oI h0 rfl fun hk4 h0 => ?_)
  refine nx 8 rfl (fD [21] h0 rfl (fun c5 h0 => ?_) fun c5 h0 => ?_)
  ·refine nx 4 rfl (cc' h0 fun hk6 h0 => ?_)
   refine mO rfl (ok_convInt rfl rfl rfl rfl rfl rfl rfl rfl (wrap_in hk6) ?_)
   exact nx 4 rfl (mQ (oi h0) rfl (sub_tuple ⟨sr, sr, trivial⟩))
  refine nx 4 rfl (bd h0 fun o85 h1 h0 => ?_)
  refine kN o85 (fun v86 => ⟨[(0, .p (eS s_0)), (1, .p (eI i_1)), (6, .p (eK .u8 (byt s_0 i_1))), (35, .p (eB v86))], []⟩) ?_ ?_
  ·refine nx 1 rfl (fB [35] h0 rfl (fun c13 h0 => ?_) fun c13 h0 => ?_)
   ·refine nx 5 rfl (cc' h0 fun hk14 h0 => ?_)
    refine mO rfl (ok_convInt rfl rfl rfl rfl rfl rfl rfl rfl (wrap_in hk14) ?_)
    refine cc' h0 fun hk15 h0 => mO rfl (ok_sh rfl rfl rfl rfl rfl rfl hk15 ?_)
    refine nx 2 rfl (oA h0 rfl rfl fun hk16 h0 => ?_)
    refine oI h0 rfl fun hk17 h0 => nx 1 rfl (cc' h0 fun hk18 h0 => ?_)
    refine mO rfl (ok_convInt rfl rfl rfl rfl rfl rfl rfl rfl (wrap_in hk18) ?_)
    exact nx 5 rfl (mQ (oi h0) rfl (sub_tuple ⟨sr, sr, trivial⟩))
   refine nx 8 rfl (bd h0 fun o87 h1 h0 => ?_)
   refine kN o87 (fun v88 => ⟨[(0, .p (eS s_0)), (1, .p (eI i_1)), (6, .p (eK .u8 (byt s_0 i_1))), (7, .p (eK .u8 v88)), (8, .p (eK .u8 191))], []⟩) ?_ ?_
   ·refine nx 2 rfl (bd h0 fun o89 h1 h0 => ?_)
    refine kN o89 (fun v90 => ⟨[(0, .p (eS s_0)), (1, .p (eI i_1)), (6, .p (eK .u8 (byt s_0 i_1))), (7, .p (eK .u8 o87)), (8, .p (eK .u8 v90))], []⟩) ?_ ?_
    ·refine nx 3 rfl (bd h0 fun o91 h1 h0 => ?_)
     refine kN o91 (fun v92 => ⟨[(0, .p (eS s_0)), (1, .p (eI i_1)), (6, .p (eK .u8 (byt s_0 i_1))), (70, .p (eB v92))], []⟩) ?_ ?_
     ·refine nx 1 rfl (fB [70] h0 rfl (fun c33 h0 => ?_) fun c33 h0 => ?_)
      ·refine nx 2 rfl (cc' h0 fun hk34 h0 => ?_)
       refine cc' h0 fun hk35 h0 => cc' h0 fun hk36 h0 => cc' h0 fun hk37 h0 => cc' h0 fun hk38 h0 => cc' h0 fun hk39 h0 => cc' h0 fun hk40 h0 => cc' h0 fun hk41 h0 => cc' h0 fun hk42 h0 => mD [(0, .p (eS s_0)), (1, .p (eI i_1)), (6, .p (eK .u8 (byt s_0 i_1)))] rfl ⟨rfl, rfl, rfl, trivial⟩ rfl (dR 2 rfl ?_)
       refine dq (.p (eI (iAnd .u8 (byt s_0 i_1) 15))) [72] rfl (fun _ e _ q => one_op rfl (ok_convInt rfl rfl rfl rfl rfl rfl rfl (e _ _ rfl) (wrap_in hk34) q)) rfl (dq (.p (eI (iShl .i64 (iAnd .u8 (byt s_0 i_1) 15) 12))) [73] rfl (fun _ e _ q => one_op rfl (ok_sh rfl rfl rfl (e _ _ rfl) rfl rfl hk35 q)) rfl ?_)
       refine dR 2 rfl (dq (.p (eI (i_1 + 1))) [76] rfl (fun _ e _ q => one_op rfl (ok_ar rfl rfl rfl (e _ _ rfl) rfl rfl hk36 q)) rfl ?_)
       refine dq (.p (eK .u8 (byt s_0 (i_1 + 1)))) [75,77] rfl (fun _ e _ q => one_op rfl (op_indexS rfl rfl rfl rfl rfl (e _ _ rfl) (e _ _ rfl) hk37 q)) rfl (dR 1 rfl ?_)
       refine dq (.p (eI (iAnd .u8 (byt s_0 (i_1 + 1)) 63))) [79] rfl (fun _ e _ q => one_op rfl (ok_convInt rfl rfl rfl rfl rfl rfl rfl (e _ _ rfl) (wrap_in hk38) q)) rfl (dq (.p (eI (iShl .i64 (iAnd .u8 (byt s_0 (i_1 + 1)) 63) 6))) [80] rfl (fun _ e _ q => one_op rfl (ok_sh rfl rfl rfl (e _ _ rfl) rfl rfl hk39 q)) rfl ?_)
       refine dR 3 rfl (dq (.p (eI (i_1 + 2))) [84] rfl (fun _ e _ q => one_op rfl (ok_ar rfl rfl rfl (e _ _ rfl) rfl rfl hk40 q)) rfl ?_)
       refine dq (.p (eK .u8 (byt s_0 (i_1 + 2)))) [83,85] rfl (fun _ e _ q => one_op rfl (op_indexS rfl rfl rfl rfl rfl (e _ _ rfl) (e _ _ rfl) hk41 q)) rfl (dR 1 rfl ?_)
       refine dq (.p (eI (iAnd .u8 (byt s_0 (i_1 + 2)) 63))) [87] rfl (fun _ e _ q => one_op rfl (ok_convInt rfl rfl rfl rfl rfl rfl rfl (e _ _ rfl) (wrap_in hk42) q)) rfl (dR 3 rfl ?_)
       refine dE rfl (nx 2 rfl ?_)
       exact mQ (oi h0) rfl (sub_tuple ⟨sr, sr, trivial⟩)
      refine nx 8 rfl (bd h0 fun o93 h1 h0 => ?_)
      refine kN o93 (fun v94 => ⟨[(0, .p (eS s_0)), (1, .p (eI i_1)), (6, .p (eK .u8 (byt s_0 i_1))), (7, .p (eK .u8 v94)), (8, .p (eK .u8 191))], []⟩) ?_ ?_
      ·refine nx 2 rfl (bd h0 fun o95 h1 h0 => ?_)
       refine kN o95 (fun v96 => ⟨[(0, .p (eS s_0)), (1, .p (eI i_1)), (6, .p (eK .u8 (byt s_0 i_1))), (7, .p (eK .u8 o93)), (8, .p (eK .u8 v96))], []⟩) ?_ ?_
       ·refine nx 3 rfl (bd h0 fun o97 h1 h0 => ?_)
        refine kN o97 (fun v98 => ⟨[(0, .p (eS s_0)), (1, .p (eI i_1)), (6, .p (eK .u8 (byt s_0 i_1))), (119, .p (eB v98))], []⟩) ?_ ?_
        ·refine nx 1 rfl (fB [119] h0 rfl (fun c61 h0 => ?_) fun c61 h0 => ?_)
         ·refine nx 2 rfl (cc' h0 fun hk62 h0 => ?_)
          refine cc' h0 fun hk63 h0 => cc' h0 fun hk64 h0 => cc' h0 fun hk65 h0 => cc' h0 fun hk66 h0 => cc' h0 fun hk67 h0 => cc' h0 fun hk68 h0 => cc' h0 fun hk69 h0 => cc' h0 fun hk70 h0 => cc' h0 fun hk71 h0 => cc' h0 fun hk72 h0 => cc' h0 fun hk73 h0 => cc' h0 fun hk74 h0 => ?_
          refine mD [(0, .p (eS s_0)), (1, .p (eI i_1)), (6, .p (eK .u8 (byt s_0 i_1)))] rfl ⟨rfl, rfl, rfl, trivial⟩ rfl (dR 2 rfl ?_)
          refine dq (.p (eI (iAnd .u8 (byt s_0 i_1) 7))) [121] rfl (fun _ e _ q => one_op rfl (ok_convInt rfl rfl rfl rfl rfl rfl rfl (e _ _ rfl) (wrap_in hk62) q)) rfl (dq (.p (eI (iShl .i64 (iAnd .u8 (byt s_0 i_1) 7) 18))) [122] rfl (fun _ e _ q => one_op rfl (ok_sh rfl rfl rfl (e _ _ rfl) rfl rfl hk63 q)) rfl ?_)
          refine dR 2 rfl (dq (.p (eI (i_1 + 1))) [125] rfl (fun _ e _ q => one_op rfl (ok_ar rfl rfl rfl (e _ _ rfl) rfl rfl hk64 q)) rfl ?_)
          refine dq (.p (eK .u8 (byt s_0 (i_1 + 1)))) [124,126] rfl (fun _ e _ q => one_op rfl (op_indexS rfl rfl rfl rfl rfl (e _ _ rfl) (e _ _ rfl) hk65 q)) rfl (dR 1 rfl ?_)
          refine dq (.p (eI (iAnd .u8 (byt s_0 (i_1 + 1)) 63))) [128] rfl (fun _ e _ q => one_op rfl (ok_convInt rfl rfl rfl rfl rfl rfl rfl (e _ _ rfl) (wrap_in hk66) q)) rfl (dq (.p (eI (iShl .i64 (iAnd .u8 (byt s_0 (i_1 + 1)) 63) 12))) [129] rfl (fun _ e _ q => one_op rfl (ok_sh rfl rfl rfl (e _ _ rfl) rfl rfl hk67 q)) rfl ?_)
          refine dR 3 rfl (dq (.p (eI (i_1 + 2))) [133] rfl (fun _ e _ q => one_op rfl (ok_ar rfl rfl rfl (e _ _ rfl) rfl rfl hk68 q)) rfl ?_)
          refine dq (.p (eK .u8 (byt s_0 (i_1 + 2)))) [132,134] rfl (fun _ e _ q => one_op rfl (op_indexS rfl rfl rfl rfl rfl (e _ _ rfl) (e _ _ rfl) hk69 q)) rfl (dR 1 rfl ?_)
          refine dq (.p (eI (iAnd .u8 (byt s_0 (i_1 + 2)) 63))) [136] rfl (fun _ e _ q => one_op rfl (ok_convInt rfl rfl rfl rfl rfl rfl rfl (e _ _ rfl) (wrap_in hk70) q)) rfl (dq (.p (eI (iShl .i64 (iAnd .u8 (byt s_0 (i_1 + 2)) 63) 6))) [137] rfl (fun _ e _ q => one_op rfl (ok_sh rfl rfl rfl (e _ _ rfl) rfl rfl hk71 q)) rfl ?_)
          refine dR 3 rfl (dq (.p (eI (i_1 + 3))) [141] rfl (fun _ e _ q => one_op rfl (ok_ar rfl rfl rfl (e _ _ rfl) rfl rfl hk72 q)) rfl ?_)
          refine dq (.p (eK .u8 (byt s_0 (i_1 + 3)))) [140,142] rfl (fun _ e _ q => one_op rfl (op_indexS rfl rfl rfl rfl rfl (e _ _ rfl) (e _ _ rfl) hk73 q)) rfl (dR 1 rfl ?_)
          refine dq (.p (eI (iAnd .u8 (byt s_0 (i_1 + 3)) 63))) [144] rfl (fun _ e _ q => one_op rfl (ok_convInt rfl rfl rfl rfl rfl rfl rfl (e _ _ rfl) (wrap_in hk74) q)) rfl (dR 3 rfl ?_)
          refine dE rfl (nx 1 rfl ?_)
          refine mG (gE (t := ⟨[(4, .p (eI (iOr .i64 (iOr .i64 (iOr .i64 (iShl .i64 (iAnd .u8 (byt s_0 i_1) 7) 18) (iShl .i64 (iAnd .u8 (byt s_0 (i_1 + 1)) 63) 12)) (iShl .i64 (iAnd .u8 (byt s_0 (i_1 + 2)) 63) 6)) (iAnd .u8 (byt s_0 (i_1 + 3)) 63)))), (5, .p (eI 4))], []⟩) rfl rfl) (nx 1 rfl ?_)
          exact mQ (oi h0) rfl (sub_tuple ⟨sr, sr, trivial⟩)
         exact nx 8 rfl (mQ (oi h0) rfl (sub_tuple ⟨sr, sr, trivial⟩))
        refine nx 4 rfl (fD [95, 96] h1 rfl (fun c47 h1 => ?_) fun c47 h1 => ?_)
        ·refine nx 4 rfl (fD [98, 99, 100] h1 rfl (fun c48 h1 => ?_) fun c48 h1 => ?_)
         ·refine nx 2 rfl (oA h1 rfl rfl fun hk49 h1 => ?_)
          refine nx 2 rfl (bd h1 fun r50 e51 h1 => ?_)
          refine oK (ref02_cont_ok s_0 (i_1 + 1) o93 o95 _ e51) rfl ⟨sr, sr, sr, sr, trivial⟩ Tryz.call183 rfl (nx 2 rfl ?_)
          refine fB [106, 107, 108] h1 rfl (fun c52 h1 => ?_) fun c52 h1 => ?_
          ·refine nx 2 rfl (oA h1 rfl rfl fun hk53 h1 => ?_)
           refine bd h1 fun r54 e55 h1 => oK (ref02_cont_ok s_0 (i_1 + 2) 128 191 _ e55) rfl ⟨sr, sr, sr, sr, trivial⟩ Tryz.call183 rfl (nx 2 rfl ?_)
           refine fB [112, 113, 114] h1 rfl (fun c56 h1 => ?_) fun c56 h1 => ?_
           ·refine nx 2 rfl (oA h1 rfl rfl fun hk57 h1 => ?_)
            refine bd h1 fun r58 e59 h1 => oK (ref02_cont_ok s_0 (i_1 + 3) 128 191 _ e59) rfl ⟨sr, sr, sr, sr, trivial⟩ Tryz.call183 rfl (nx 2 rfl ?_)
            exact eX _ (oi h1).symm (gE rfl rfl)
           exact nx 6 rfl (eX _ (oi h1).symm (gE rfl rfl))
          exact nx 12 rfl (eX _ (oi h1).symm (gE rfl rfl))
         exact nx 20 rfl (eX _ (oi h1).symm (gE rfl rfl))
        exact nx 24 rfl (eX _ (oi h1).symm (gE rfl rfl))
       refine nx 5 rfl (fD [93] h1 rfl (fun c45 h1 => ?_) fun c45 h1 => ?_)
       ·exact nx 4 rfl (eX _ (oi h1).symm (gE rfl rfl))
       exact nx 2 rfl (eX _ (oi h1).symm (gE rfl rfl))
      refine nx 5 rfl (fD [91] h1 rfl (fun c43 h1 => ?_) fun c43 h1 => ?_)
      ·exact nx 4 rfl (eX _ (oi h1).symm (gE rfl rfl))
      exact nx 2 rfl (eX _ (oi h1).symm (gE rfl rfl))
     refine nx 4 rfl (fD [52, 53] h1 rfl (fun c23 h1 => ?_) fun c23 h1 => ?_)
     ·refine nx 4 rfl (fD [55, 56, 57] h1 rfl (fun c24 h1 => ?_) fun c24 h1 => ?_)
      ·refine nx 2 rfl (oA h1 rfl rfl fun hk25 h1 => ?_)
       refine nx 2 rfl (bd h1 fun r26 e27 h1 => ?_)
       refine oK (ref02_cont_ok s_0 (i_1 + 1) o87 o89 _ e27) rfl ⟨sr, sr, sr, sr, trivial⟩ Tryz.call183 rfl (nx 2 rfl ?_)
       refine fB [63, 64, 65] h1 rfl (fun c28 h1 => ?_) fun c28 h1 => ?_
       ·refine nx 2 rfl (oA h1 rfl rfl fun hk29 h1 => ?_)
        refine bd h1 fun r30 e31 h1 => oK (ref02_cont_ok s_0 (i_1 + 2) 128 191 _ e31) rfl ⟨sr, sr, sr, sr, trivial⟩ Tryz.call183 rfl (nx 2 rfl ?_)
        exact eX _ (oi h1).symm (gE rfl rfl)
       exact nx 6 rfl (eX _ (oi h1).symm (gE rfl rfl))
      exact nx 14 rfl (eX _ (oi h1).symm (gE rfl rfl))
     exact nx 18 rfl (eX _ (oi h1).symm (gE rfl rfl))
    refine nx 5 rfl (fD [50] h1 rfl (fun c21 h1 => ?_) fun c21 h1 => ?_)
    ·exact nx 4 rfl (eX _ (oi h1).symm (gE rfl rfl))
    exact nx 2 rfl (eX _ (oi h1).symm (gE rfl rfl))
   refine nx 5 rfl (fD [48] h1 rfl (fun c19 h1 => ?_) fun c19 h1 => ?_)
   ·exact nx 4 rfl (eX _ (oi h1).symm (gE rfl rfl))
   exact nx 2 rfl (eX _ (oi h1).symm (gE rfl rfl))
  refine nx 4 rfl (fD [25, 26] h1 rfl (fun c7 h1 => ?_) fun c7 h1 => ?_)
  ·refine nx 4 rfl (fD [28, 29, 30] h1 rfl (fun c8 h1 => ?_) fun c8 h1 => ?_)
   ·refine nx 2 rfl (oA h1 rfl rfl fun hk9 h1 => ?_)
    refine bd h1 fun r10 e11 h1 => oK (ref02_cont_ok s_0 (i_1 + 1) 128 191 _ e11) rfl ⟨sr, sr, sr, sr, trivial⟩ Tryz.call183 rfl (nx 2 rfl ?_)
    exact eX _ (oi h1).symm (gE rfl rfl)
   exact nx 6 rfl (eX _ (oi h1).symm (gE rfl rfl))
  exact nx 10 rfl (eX _ (oi h1).symm (gE rfl rfl))
 refine nx 4 rfl (fD [10, 11] h1 rfl (fun c1 h1 => ?_) fun c1 h1 => ?_)
 ·exact nx 6 rfl (eX _ (oi h1).symm (gE rfl rfl))
 refine nx 2 rfl (oLs rfl ?_)
 exact nx 3 rfl (eX _ (oi h1).symm (gE rfl rfl))
def ref02_Valid_l1 (s_0 : Bytes) : Nat → Int → Option (Unit ⊕ Bool)
 | 0, _ => none
 | m + 1, i8 =>
 if i8 < (s_0.length : Int) then
  (ref02_Decode s_0 i8).bind fun r10 =>
  if r10.2 = 0 then
   some (.inr false)
  else
   ck (inR (i8 + r10.2)) <|
   ref02_Valid_l1 s_0 m (i8 + r10.2)
 else
  some (.inl ())
def ref02_Valid (n : Nat) (s_0 : Bytes) : Option Bool :=
 if 4096 < (s_0.length : Int) then
  some false
 else
  jn (ref02_Valid_l1 s_0 n 0) fun q15 =>
  some true
set_option maxHeartbeats 4000000 in
theorem ref02_Valid_ok (n : Nat) (s_0 : Bytes) (r : Bool) (h0 : ref02_Valid n s_0 = some r) : PCalls Tryz.prog 115 [eS s_0] (· = .p (eB r)) := by
 unfold ref02_Valid at h0
 refine pbodyA good Tryz.func115 rfl rfl rfl fun w0 => mP (fun v : Bool => .p (eB v)) ?_
 refine nx 8 rfl (oLs rfl ?_)
 refine nx 2 rfl (fD [8] h0 rfl (fun c1 h0 => ?_) fun c1 h0 => ?_)
 ·exact nx 6 rfl (mQ (oi h0) rfl (sr))
 refine nx 8 rfl ?_
 obtain ⟨o16, h1, hL0, hR0⟩ := jn_cut h0
 refine kEx 0 (fun v17 : Unit => o16 = .inl v17) (fun v17 => ⟨[], []⟩) (fun v17 hv => ?_) ?_
 ·have h0 := hL0 _ hv
  exact nx 6 rfl (mQ (oi h0) rfl (sr))
 refine lG (fun (q18 : Int) => ⟨[(0, .p (eS s_0)), (3, .p (eI q18))], []⟩) (fun m (q18 : Int) => ref02_Valid_l1 s_0 m q18) (fun _ => rfl) 0 h1 (gE rfl rfl) ?_
 rintro m i8 h1
 replace h1 : ref02_Valid_l1 s_0 (m + 1) i8 = some o16 := h1
 rw [ref02_Valid_l1] at h1
 refine nx 5 rfl (oLs rfl ?_)
 refine nx 2 rfl (fD [12] h1 rfl (fun c9 h1 => ?_) fun c9 h1 => ?_)
 ·refine nx 7 rfl (bd h1 fun r10 e11 h1 => ?_)
  refine oK (ref02_Decode_ok s_0 i8 _ e11) rfl ⟨sr, sr, trivial⟩ Tryz.call155 rfl (nx 12 rfl ?_)
  refine fD [20] h1 rfl (fun c12 h1 => ?_) fun c12 h1 => ?_
  ·exact nx 6 rfl (mQ (hR0 _ (oi h1).symm) rfl (sr))
  refine nx 5 rfl (oA h1 rfl rfl fun hk13 h1 => ?_)
  exact nx 2 rfl (eX (i8 + r10.2) h1 (gE rfl rfl))
 exact nx 2 rfl (eXi _ (oi h1).symm (gE rfl rfl))
def ref01_Valid (n_0 : Int) : Option Bool :=
 (
   if (-9007199254740992) ≤ n_0 then
    some (decide (n_0 ≤ 9007199254740992))
   else
    some false
  : Option Bool).bind fun t2 =>
 some t2
set_option maxHeartbeats 4000000 in
theorem ref01_Valid_ok (n_0 : Int) (r : Bool) (h0 : ref01_Valid n_0 = some r) : PCalls Tryz.prog 221 [eI n_0] (· = .p (eB r)) := by
 unfold ref01_Valid at h0
 refine pbodyA good Tryz.func221 rfl rfl rfl fun w0 => mP (fun v : Bool => .p (eB v)) ?_
 refine nx 5 rfl (bd h0 fun o4 h1 h0 => ?_)
 refine kN o4 (fun v5 => ⟨[(2, .p (eB v5))], []⟩) ?_ ?_
 ·exact nx 2 rfl (mQ (oi h0) rfl (sr))
 refine nx 4 rfl (fD [4, 5] h1 rfl (fun c1 h1 => ?_) fun c1 h1 => ?_)
 ·exact nx 5 rfl (eX _ (oi h1).symm (gE rfl rfl))
 exact nx 5 rfl (eX _ (oi h1).symm (gE rfl rfl))
def ref01_Format : Nat → Int → Option Bytes
 | 0, _ => none
 | n + 1, n_0 =>
 (
   if 0 ≤ n_0 then
    some (decide (n_0 ≤ 9))
   else
    some false
  : Option Bool).bind fun t2 =>
 if t2 = true then
  ck (inR (48 + n_0)) <|
  ck ((0 : Int) ≤ IntKind.wrap .u8 (48 + n_0) ∧ IntKind.wrap .u8 (48 + n_0) < 256) <|
  some [u8 (IntKind.wrap .u8 (48 + n_0))]
 else
  (
    if n_0 < 0 then
     some (decide ((-10) < n_0))
    else
     some false
   : Option Bool).bind fun t7 =>
  if t7 = true then
   ck (inR (0 - n_0)) <|
   ((ref01_Format n) (0 - n_0)).bind fun r10 =>
   ck (([45] : Bytes).length + r10.length ≤ 9223372036854775807) <|
   some (([45] : Bytes) ++ r10)
  else
   if n_0 < 0 then
    ck ((10 : Int) ≠ 0) <|
    ((ref01_Format n) (IntKind.wrap .i64 (n_0.tdiv 10))).bind fun r15 =>
    ck ((10 : Int) ≠ 0) <|
    ck (inR (0 - (n_0.tmod 10))) <|
    ((ref01_Format n) (0 - (n_0.tmod 10))).bind fun r19 =>
    ck (r15.length + r19.length ≤ 9223372036854775807) <|
    some (r15 ++ r19)
   else
    ck ((10 : Int) ≠ 0) <|
    ((ref01_Format n) (IntKind.wrap .i64 (n_0.tdiv 10))).bind fun r23 =>
    ck ((10 : Int) ≠ 0) <|
    ((ref01_Format n) (n_0.tmod 10)).bind fun r26 =>
    ck (r23.length + r26.length ≤ 9223372036854775807) <|
    some (r23 ++ r26)
set_option maxHeartbeats 4000000 in
theorem ref01_Format_ok (n : Nat) : ∀ (n_0 : Int) (r : Bytes), ref01_Format n n_0 = some r → PCalls Tryz.prog 82 [eI n_0] (· = .p (eS r)) := by
 induction n with
 | zero => intro n_0 r h0; cases h0
 | succ n ih =>
 have ih_ref01_Format_ok := ih
 intro n_0 r h0
 rw [ref01_Format] at h0
 refine pbodyA good Tryz.func82 rfl rfl rfl fun w0 => mP (fun v : Bytes => .p (eS v)) ?_
 refine nx 6 rfl (bd h0 fun o31 h1 h0 => ?_)
 refine kN o31 (fun v32 => ⟨[(0, .p (eI n_0)), (8, .p (eB v32))], []⟩) ?_ ?_
 ·refine nx 1 rfl (fB [8] h0 rfl (fun c3 h0 => ?_) fun c3 h0 => ?_)
  ·refine nx 4 rfl (oA h0 rfl rfl fun hk4 h0 => ?_)
   refine nx 1 rfl (cc' h0 fun hk5 h0 => ?_)
   refine mO rfl (op_bslice eU [u8 (IntKind.wrap .u8 (48 + n_0))] rfl rfl rfl rfl rfl rfl rfl rfl rfl rfl rfl rfl rfl (congr (congrArg List.cons (u8_of hk5)) rfl) ?_)
   refine mO rfl (op_convBS [u8 (IntKind.wrap .u8 (48 + n_0))] rfl rfl rfl rfl rfl rfl rfl rfl rfl rfl rfl ?_)
   exact nx 3 rfl (mQ (oi h0) rfl (sr))
  refine nx 4 rfl (bd h0 fun o33 h1 h0 => ?_)
  refine kN o33 (fun v34 => ⟨[(0, .p (eI n_0)), (19, .p (eB v34))], []⟩) ?_ ?_
  ·refine nx 1 rfl (fB [19] h0 rfl (fun c8 h0 => ?_) fun c8 h0 => ?_)
   ·refine nx 4 rfl (cc' h0 fun hk9 h0 => ?_)
    refine mO rfl (ok_neg rfl rfl rfl rfl hk9 ?_)
    refine bd h0 fun r10 e11 h0 => oK (ih_ref01_Format_ok (0 - n_0) _ e11) rfl ⟨sr, trivial⟩ Tryz.call82 rfl (oC h0 rfl fun hk12 h0 => ?_)
    exact nx 3 rfl (mQ (oi h0) rfl (sr))
   refine nx 8 rfl (fD [25] h0 rfl (fun c13 h0 => ?_) fun c13 h0 => ?_)
   ·refine nx 4 rfl (cc' h0 fun hk14 h0 => ?_)
    refine mO rfl (ok_dv rfl rfl rfl rfl rfl rfl hk14 ?_)
    refine bd h0 fun r15 e16 h0 => oK (ih_ref01_Format_ok (IntKind.wrap .i64 (n_0.tdiv 10)) _ e16) rfl ⟨sr, trivial⟩ Tryz.call82 rfl (nx 1 rfl ?_)
    refine cc' h0 fun hk17 h0 => mO rfl (ok_dv rfl rfl rfl rfl rfl rfl hk17 ?_)
    refine cc' h0 fun hk18 h0 => mO rfl (ok_neg rfl rfl rfl rfl hk18 ?_)
    refine bd h0 fun r19 e20 h0 => oK (ih_ref01_Format_ok (0 - (n_0.tmod 10)) _ e20) rfl ⟨sr, trivial⟩ Tryz.call82 rfl (oC h0 rfl fun hk21 h0 => ?_)
    exact nx 3 rfl (mQ (oi h0) rfl (sr))
   refine nx 5 rfl (cc' h0 fun hk22 h0 => ?_)
   refine mO rfl (ok_dv rfl rfl rfl rfl rfl rfl hk22 ?_)
   refine bd h0 fun r23 e24 h0 => oK (ih_ref01_Format_ok (IntKind.wrap .i64 (n_0.tdiv 10)) _ e24) rfl ⟨sr, trivial⟩ Tryz.call82 rfl (nx 1 rfl ?_)
   refine cc' h0 fun hk25 h0 => mO rfl (ok_dv rfl rfl rfl rfl rfl rfl hk25 ?_)
   refine bd h0 fun r26 e27 h0 => oK (ih_ref01_Format_ok (n_0.tmod 10) _ e27) rfl ⟨sr, trivial⟩ Tryz.call82 rfl (oC h0 rfl fun hk28 h0 => ?_)
   exact nx 3 rfl (mQ (oi h0) rfl (sr))
  refine nx 4 rfl (fD [15, 16] h1 rfl (fun c6 h1 => ?_) fun c6 h1 => ?_)
  ·exact nx 4 rfl (eX _ (oi h1).symm (gE rfl rfl))
  exact nx 4 rfl (eX _ (oi h1).symm (gE rfl rfl))
 refine nx 4 rfl (fD [4, 5] h1 rfl (fun c1 h1 => ?_) fun c1 h1 => ?_)
 ·exact nx 4 rfl (eX _ (oi h1).symm (gE rfl rfl))
 exact nx 4 rfl (eX _ (oi h1).symm (gE rfl rfl))
end Go.Ab.R06
