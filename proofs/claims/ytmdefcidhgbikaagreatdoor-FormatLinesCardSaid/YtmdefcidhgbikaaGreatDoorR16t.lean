/- Chapter 16. -/
import Derived.Test.YtmdefcidhgbikaaGreatDoorR16q
set_option linter.unusedVariables false
set_option linter.unusedSimpArgs false
set_option linter.unnecessarySimpa false
namespace Go.Ab.R06
open Go.Proofs Go.Ab Go.Ab.RB
attribute [local irreducible] awp rwpL OpOk PCalls OCalls AV.sub M Ghost
def ref02_Escape_l1 (s_0 : Bytes) : Nat → Bytes → Int → Option Bytes
 | 0, _, _ => none
 | m + 1, out18, i19 =>
 if i19 < (s_0.length : Int) then
  (
    (
      ck ((0 : Int) ≤ i19 ∧ i19 < (s_0.length : Int)) <|
      if byt s_0 i19 = 36 then
       ck (inR (i19 + 1)) <|
       if i19 + 1 < (s_0.length : Int) then
        ck (inR (i19 + 1)) <|
        ck ((0 : Int) ≤ i19 + 1 ∧ i19 + 1 < (s_0.length : Int)) <|
        some (decide (byt s_0 (i19 + 1) = 123))
       else
        some false
      else
       some false
     : Option Bool).bind fun t27 =>
    if t27 = true then
     ck (out18.length + ([36] : Bytes).length ≤ 9223372036854775807) <|
     some (out18 ++ ([36] : Bytes))
    else
     some out18
   : Option Bytes).bind fun out30 =>
  ck (inR (i19 + 1)) <|
  ck ((0 : Int) ≤ i19 ∧ i19 ≤ i19 + 1 ∧ i19 + 1 ≤ (s_0.length : Int)) <|
  ck (out30.length + (sub s_0 i19 (i19 + 1)).length ≤ 9223372036854775807) <|
  ck (inR (i19 + 1)) <|
  ref02_Escape_l1 s_0 m (out30 ++ (sub s_0 i19 (i19 + 1))) (i19 + 1)
 else
  some out18
def ref02_Escape (n : Nat) (s_0 : Bytes) : Option Bytes :=
 (ref02_Escape_l1 s_0 n ([] : Bytes) 0).bind fun out37 =>
 some out37
set_option maxHeartbeats 4000000 in
theorem ref02_Escape_ok (n : Nat) (s_0 : Bytes) (r : Bytes) (h0 : ref02_Escape n s_0 = some r) : PCalls Tryz.prog 122 [eS s_0] (· = .p (eS r)) := by
 unfold ref02_Escape at h0
 refine pbodyA good Tryz.func122 rfl rfl rfl fun w0 => mP (fun v : Bytes => .p (eS v)) ?_
 refine nx 14 rfl (bd h0 fun o41 h1 h0 => ?_)
 refine kE 0 o41 (fun v42 => ⟨[(3, .p (eS v42))], []⟩) ?_ ?_
 ·exact nx 7 rfl (mQ (oi h0) rfl (sr))
 refine lG (fun (q43 : Bytes × Int) => ⟨[(0, .p (eS s_0)), (3, .p (eS q43.1)), (4, .p (eI q43.2))], []⟩) (fun m (q43 : Bytes × Int) => ref02_Escape_l1 s_0 m q43.1 q43.2) (fun _ => rfl) (([] : Bytes), 0) h1 (gE rfl rfl) ?_
 rintro m ⟨out18, i19⟩ h1
 replace h1 : ref02_Escape_l1 s_0 (m + 1) out18 i19 = some o41 := h1
 rw [ref02_Escape_l1] at h1
 refine nx 5 rfl (oLs rfl ?_)
 refine nx 2 rfl (fD [8] h1 rfl (fun c20 h1 => ?_) fun c20 h1 => ?_)
 ·refine nx 5 rfl (bd h1 fun o44 h2 h1 => ?_)
  refine kN o44 (fun v45 => ⟨[(0, .p (eS s_0)), (3, .p (eS v45)), (4, .p (eI i19))], []⟩) ?_ ?_
  ·refine nx 6 rfl (oA h1 rfl rfl fun hk31 h1 => ?_)
   refine oP h1 rfl rfl rfl fun hk32 h1 => oC h1 rfl fun hk33 h1 => nx 4 rfl (oA h1 rfl rfl fun hk34 h1 => ?_)
   exact nx 2 rfl (eX (o44 ++ (sub s_0 i19 (i19 + 1)), i19 + 1) h1 (gE rfl rfl))
  refine nx 1 rfl (bd h2 fun o46 h3 h2 => ?_)
  refine kN o46 (fun v47 => ⟨[(0, .p (eS s_0)), (3, .p (eS out18)), (4, .p (eI i19)), (28, .p (eB v47))], []⟩) ?_ ?_
  ·refine nx 1 rfl (fB [28] h2 rfl (fun c28 h2 => ?_) fun c28 h2 => ?_)
   ·refine nx 3 rfl (oC h2 rfl fun hk29 h2 => ?_)
    exact nx 2 rfl (eX _ (oi h2).symm (gE rfl rfl))
   exact nx 2 rfl (eX _ (oi h2).symm (gE rfl rfl))
  refine nx 3 rfl (oI h3 rfl fun hk21 h3 => ?_)
  refine nx 2 rfl (fD [14, 15] h3 rfl (fun c22 h3 => ?_) fun c22 h3 => ?_)
  ·refine nx 1 rfl (oA h3 rfl rfl fun hk23 h3 => ?_)
   refine nx 1 rfl (oLs rfl ?_)
   refine nx 3 rfl (fD [20, 21, 22] h3 rfl (fun c24 h3 => ?_) fun c24 h3 => ?_)
   ·refine nx 2 rfl (oA h3 rfl rfl fun hk25 h3 => ?_)
    exact oI h3 rfl fun hk26 h3 => nx 3 rfl (eX _ (oi h3).symm (gE rfl rfl))
   exact nx 7 rfl (eX _ (oi h3).symm (gE rfl rfl))
  exact nx 14 rfl (eX _ (oi h3).symm (gE rfl rfl))
 exact nx 2 rfl (eXi _ (oi h1).symm (gE rfl rfl))
def ref16_quoted (n : Nat) (s_0 : Bytes) : Option Bytes :=
 (ref02_Escape n s_0).bind fun r1 =>
 (ref02_Quote n r1).bind fun r3 =>
 ck (inR ((r3.length : Int) - 1)) <|
 ck ((0 : Int) ≤ 1 ∧ 1 ≤ (r3.length : Int) - 1 ∧ (r3.length : Int) - 1 ≤ (r3.length : Int)) <|
 some (sub r3 1 ((r3.length : Int) - 1))
set_option maxHeartbeats 4000000 in
theorem ref16_quoted_ok (n : Nat) (s_0 : Bytes) (r : Bytes) (h0 : ref16_quoted n s_0 = some r) : PCalls Tryz.prog 83 [eS s_0] (· = .p (eS r)) := by
 unfold ref16_quoted at h0
 refine pbodyA good Tryz.func83 rfl rfl rfl fun w0 => mP (fun v : Bytes => .p (eS v)) ?_
 refine nx 7 rfl (bd h0 fun r1 e2 h0 => ?_)
 refine oK (ref02_Escape_ok _ s_0 _ e2) rfl ⟨sr, trivial⟩ Tryz.call122 rfl (bd h0 fun r3 e4 h0 => ?_)
 refine oK (ref02_Quote_ok _ r1 _ e4) rfl ⟨sr, trivial⟩ Tryz.call90 rfl (nx 6 rfl ?_)
 refine oLs rfl (oA h0 rfl rfl fun hk5 h0 => ?_)
 exact oP h0 rfl rfl rfl fun hk6 h0 => nx 3 rfl (mQ (oi h0) rfl (sr))
def ref16_literal (n : Nat) (v_0 : TValue) : Option Bytes :=
 if v_0.fKind = 0 then
  some ([110, 117, 108, 108] : Bytes)
 else
  if v_0.fKind = 1 then
   if v_0.fNum = 1 then
    some ([116, 114, 117, 101] : Bytes)
   else
    some ([102, 97, 108, 115, 101] : Bytes)
  else
   if v_0.fKind = 2 then
    (ref01_Format n v_0.fNum).bind fun r5 =>
    some r5
   else
    (ref16_quoted n v_0.fStr).bind fun r7 =>
    ck (([34] : Bytes).length + r7.length ≤ 9223372036854775807) <|
    ck ((([34] : Bytes) ++ r7).length + ([34] : Bytes).length ≤ 9223372036854775807) <|
    some ((([34] : Bytes) ++ r7) ++ ([34] : Bytes))
set_option maxHeartbeats 4000000 in
theorem ref16_literal_ok (n : Nat) (v_0 : TValue) (r : Bytes) (h0 : ref16_literal n v_0 = some r) : PCalls Tryz.prog 38 [.agg (TValue.cs v_0)] (· = .p (eS r)) := by
 unfold ref16_literal at h0
 refine pbodyA good Tryz.func38 rfl rfl rfl fun w0 => mP (fun v : Bytes => .p (eS v)) ?_
 refine nx 17 rfl (fD [5, 6] h0 rfl (fun c1 h0 => ?_) fun c1 h0 => ?_)
 ·exact nx 6 rfl (mQ (oi h0) rfl (sr))
 refine nx 6 rfl (fD [7, 8] h0 rfl (fun c2 h0 => ?_) fun c2 h0 => ?_)
 ·refine nx 8 rfl (fD [11] h0 rfl (fun c3 h0 => ?_) fun c3 h0 => ?_)
  ·exact nx 6 rfl (mQ (oi h0) rfl (sr))
  exact nx 7 rfl (mQ (oi h0) rfl (sr))
 refine nx 6 rfl (fD [12, 13] h0 rfl (fun c4 h0 => ?_) fun c4 h0 => ?_)
 ·refine nx 5 rfl (bd h0 fun r5 e6 h0 => ?_)
  refine oK (ref01_Format_ok _ v_0.fNum _ e6) rfl ⟨sr, trivial⟩ Tryz.call82 rfl (nx 3 rfl ?_)
  exact mQ (oi h0) rfl (sr)
 refine nx 6 rfl (bd h0 fun r7 e8 h0 => ?_)
 refine oK (ref16_quoted_ok _ v_0.fStr _ e8) rfl ⟨sr, trivial⟩ Tryz.call83 rfl (oC h0 rfl fun hk9 h0 => ?_)
 exact oC h0 rfl fun hk10 h0 => nx 3 rfl (mQ (oi h0) rfl (sr))
def ref16_plain (e_0 : TExpr) : Option Bool :=
 (
   if e_0.fKind = 1 then
    if e_0.fValue.fKind = 3 then
     some (!decide (e_0.fValue.fStr = ([] : Bytes)))
    else
     some false
   else
    some false
  : Option Bool).bind fun t3 =>
 some t3
set_option maxHeartbeats 4000000 in
theorem ref16_plain_ok (e_0 : TExpr) (r : Bool) (h0 : ref16_plain e_0 = some r) : PCalls Tryz.prog 84 [.agg (TExpr.cs e_0)] (· = .p (eB r)) := by
 unfold ref16_plain at h0
 refine pbodyA good Tryz.func84 rfl rfl rfl fun w0 => mP (fun v : Bool => .p (eB v)) ?_
 refine nx 6 rfl (bd h0 fun o5 h1 h0 => ?_)
 refine kN o5 (fun v6 => ⟨[(2, .p (eB v6))], []⟩) ?_ ?_
 ·exact nx 2 rfl (mQ (oi h0) rfl (sr))
 refine nx 5 rfl (fD [5, 6] h1 rfl (fun c1 h1 => ?_) fun c1 h1 => ?_)
 ·refine nx 6 rfl (fD [10, 11, 12] h1 rfl (fun c2 h1 => ?_) fun c2 h1 => ?_)
  ·refine nx 3 rfl (oS rfl rfl ?_)
   exact nx 3 rfl (eX _ (oi h1).symm (gE rfl rfl))
  exact nx 7 rfl (eX _ (oi h1).symm (gE rfl rfl))
 exact nx 13 rfl (eX _ (oi h1).symm (gE rfl rfl))
def ref16_part (n : Nat) (s_0 : Bytes) (last_1 : Bool) : Option Bytes :=
 (
   if (!last_1) = true then
    ck (inR ((s_0.length : Int) - 1)) <|
    ck ((0 : Int) ≤ (s_0.length : Int) - 1 ∧ (s_0.length : Int) - 1 < (s_0.length : Int)) <|
    some (decide (byt s_0 ((s_0.length : Int) - 1) = 36))
   else
    some false
  : Option Bool).bind fun t4 =>
 if t4 = true then
  ck (inR ((s_0.length : Int) - 1)) <|
  ck ((0 : Int) ≤ 0 ∧ 0 ≤ (s_0.length : Int) - 1 ∧ (s_0.length : Int) - 1 ≤ (s_0.length : Int)) <|
  (ref16_quoted n (sub s_0 0 ((s_0.length : Int) - 1))).bind fun r8 =>
  ck (r8.length + ([92, 117, 123, 50, 52, 125] : Bytes).length ≤ 9223372036854775807) <|
  some (r8 ++ ([92, 117, 123, 50, 52, 125] : Bytes))
 else
  (ref16_quoted n s_0).bind fun r11 =>
  some r11
set_option maxHeartbeats 4000000 in
theorem ref16_part_ok (n : Nat) (s_0 : Bytes) (last_1 : Bool) (r : Bytes) (h0 : ref16_part n s_0 last_1 = some r) : PCalls Tryz.prog 85 [eS s_0, eB last_1] (· = .p (eS r)) := by
 unfold ref16_part at h0
 refine pbodyA good Tryz.func85 rfl rfl rfl fun w0 => mP (fun v : Bytes => .p (eS v)) ?_
 refine nx 6 rfl (bd h0 fun o14 h1 h0 => ?_)
 refine kN o14 (fun v15 => ⟨[(0, .p (eS s_0)), (14, .p (eB v15))], []⟩) ?_ ?_
 ·refine nx 1 rfl (fB [14] h0 rfl (fun c5 h0 => ?_) fun c5 h0 => ?_)
  ·refine nx 5 rfl (oLs rfl ?_)
   refine oA h0 rfl rfl fun hk6 h0 => oP h0 rfl rfl rfl fun hk7 h0 => bd h0 fun r8 e9 h0 => oK (ref16_quoted_ok _ (sub s_0 0 ((s_0.length : Int) - 1)) _ e9) rfl ⟨sr, trivial⟩ Tryz.call83 rfl (oC h0 rfl fun hk10 h0 => ?_)
   exact nx 3 rfl (mQ (oi h0) rfl (sr))
  refine nx 5 rfl (bd h0 fun r11 e12 h0 => ?_)
  refine oK (ref16_quoted_ok _ s_0 _ e12) rfl ⟨sr, trivial⟩ Tryz.call83 rfl (nx 3 rfl ?_)
  exact mQ (oi h0) rfl (sr)
 refine nx 4 rfl (fB [6, 7] h1 rfl (fun c1 h1 => ?_) fun c1 h1 => ?_)
 ·refine nx 2 rfl (oLs rfl ?_)
  exact oA h1 rfl rfl fun hk2 h1 => oI h1 rfl fun hk3 h1 => nx 3 rfl (eX _ (oi h1).symm (gE rfl rfl))
 exact nx 8 rfl (eX _ (oi h1).symm (gE rfl rfl))
def ref16_binary (op_0 : Int) : Option Int :=
 if op_0 = 3 then
  some 1
 else
  if op_0 = 4 then
   some 2
  else
   (
     if op_0 = 5 then
      some true
     else
      some (decide (op_0 = 6))
    : Option Bool).bind fun t4 =>
   if t4 = true then
    some 3
   else
    (
      if op_0 = 7 then
       some true
      else
       if op_0 = 8 then
        some true
       else
        if op_0 = 9 then
         some true
        else
         some (decide (op_0 = 10))
     : Option Bool).bind fun t9 =>
    if t9 = true then
     some 4
    else
     (
       if op_0 = 11 then
        some true
       else
        some (decide (op_0 = 12))
      : Option Bool).bind fun t12 =>
     if t12 = true then
      some 5
     else
      some 6
set_option maxHeartbeats 4000000 in
theorem ref16_binary_ok (op_0 : Int) (r : Int) (h0 : ref16_binary op_0 = some r) : PCalls Tryz.prog 42 [eI op_0] (· = .p (eI r)) := by
 unfold ref16_binary at h0
 refine pbodyA good Tryz.func42 rfl rfl rfl fun w0 => mP (fun v : Int => .p (eI v)) ?_
 refine nx 15 rfl (fD [4, 5] h0 rfl (fun c1 h0 => ?_) fun c1 h0 => ?_)
 ·exact nx 6 rfl (mQ (oi h0) rfl (sr))
 refine nx 6 rfl (fD [6, 7] h0 rfl (fun c2 h0 => ?_) fun c2 h0 => ?_)
 ·exact nx 6 rfl (mQ (oi h0) rfl (sr))
 refine nx 2 rfl (bd h0 fun o17 h1 h0 => ?_)
 refine kN o17 (fun v18 => ⟨[(3, .p (eI op_0)), (8, .p (eB v18))], []⟩) ?_ ?_
 ·refine nx 1 rfl (fB [8] h0 rfl (fun c5 h0 => ?_) fun c5 h0 => ?_)
  ·exact nx 6 rfl (mQ (oi h0) rfl (sr))
  refine nx 2 rfl (bd h0 fun o19 h1 h0 => ?_)
  refine kN o19 (fun v20 => ⟨[(3, .p (eI op_0)), (11, .p (eB v20))], []⟩) ?_ ?_
  ·refine nx 1 rfl (fB [11] h0 rfl (fun c10 h0 => ?_) fun c10 h0 => ?_)
   ·exact nx 6 rfl (mQ (oi h0) rfl (sr))
   refine nx 2 rfl (bd h0 fun o21 h1 h0 => ?_)
   refine kN o21 (fun v22 => ⟨[(16, .p (eB v22))], []⟩) ?_ ?_
   ·refine nx 1 rfl (fB [16] h0 rfl (fun c13 h0 => ?_) fun c13 h0 => ?_)
    ·exact nx 6 rfl (mQ (oi h0) rfl (sr))
    exact nx 7 rfl (mQ (oi h0) rfl (sr))
   refine nx 5 rfl (fD [16, 17] h1 rfl (fun c11 h1 => ?_) fun c11 h1 => ?_)
   ·exact nx 2 rfl (eX _ (oi h1).symm (gE rfl rfl))
   exact nx 5 rfl (eX _ (oi h1).symm (gE rfl rfl))
  refine nx 5 rfl (fD [11, 12] h1 rfl (fun c6 h1 => ?_) fun c6 h1 => ?_)
  ·exact nx 2 rfl (eX _ (oi h1).symm (gE rfl rfl))
  refine nx 6 rfl (fD [11, 13] h1 rfl (fun c7 h1 => ?_) fun c7 h1 => ?_)
  ·exact nx 2 rfl (eX _ (oi h1).symm (gE rfl rfl))
  refine nx 6 rfl (fD [11, 14] h1 rfl (fun c8 h1 => ?_) fun c8 h1 => ?_)
  ·exact nx 2 rfl (eX _ (oi h1).symm (gE rfl rfl))
  exact nx 5 rfl (eX _ (oi h1).symm (gE rfl rfl))
 refine nx 5 rfl (fD [8, 9] h1 rfl (fun c3 h1 => ?_) fun c3 h1 => ?_)
 ·exact nx 2 rfl (eX _ (oi h1).symm (gE rfl rfl))
 exact nx 5 rfl (eX _ (oi h1).symm (gE rfl rfl))
def ref16_level (e_0 : TExpr) : Option Int :=
 if e_0.fKind = 8 then
  some 0
 else
  if e_0.fKind = 6 then
   some 7
  else
   if e_0.fKind = 7 then
    (ref16_binary e_0.fOp).bind fun r4 =>
    some r4
   else
    some 8
set_option maxHeartbeats 4000000 in
theorem ref16_level_ok (e_0 : TExpr) (r : Int) (h0 : ref16_level e_0 = some r) : PCalls Tryz.prog 86 [.agg (TExpr.cs e_0)] (· = .p (eI r)) := by
 unfold ref16_level at h0
 refine pbodyA good Tryz.func86 rfl rfl rfl fun w0 => mP (fun v : Int => .p (eI v)) ?_
 refine nx 17 rfl (fD [5, 6] h0 rfl (fun c1 h0 => ?_) fun c1 h0 => ?_)
 ·exact nx 6 rfl (mQ (oi h0) rfl (sr))
 refine nx 6 rfl (fD [7, 8] h0 rfl (fun c2 h0 => ?_) fun c2 h0 => ?_)
 ·exact nx 6 rfl (mQ (oi h0) rfl (sr))
 refine nx 6 rfl (fD [9, 10] h0 rfl (fun c3 h0 => ?_) fun c3 h0 => ?_)
 ·refine nx 5 rfl (bd h0 fun r4 e5 h0 => ?_)
  refine oK (ref16_binary_ok e_0.fOp _ e5) rfl ⟨sr, trivial⟩ Tryz.call42 rfl (nx 3 rfl ?_)
  exact mQ (oi h0) rfl (sr)
 exact nx 7 rfl (mQ (oi h0) rfl (sr))
def ref16_sign (op_0 : Int) : Option Bytes :=
 ck ((0 : Int) ≤ op_0 ∧ op_0 < (([([] : Bytes), ([33] : Bytes), ([45] : Bytes), ([124, 124] : Bytes), ([38, 38] : Bytes), ([61, 61] : Bytes), ([33, 61] : Bytes), ([60] : Bytes), ([60, 61] : Bytes), ([62] : Bytes), ([62, 61] : Bytes), ([43] : Bytes), ([45] : Bytes), ([42] : Bytes), ([47] : Bytes), ([37] : Bytes)]).length : Int)) <|
 some (lat ([([] : Bytes), ([33] : Bytes), ([45] : Bytes), ([124, 124] : Bytes), ([38, 38] : Bytes), ([61, 61] : Bytes), ([33, 61] : Bytes), ([60] : Bytes), ([60, 61] : Bytes), ([62] : Bytes), ([62, 61] : Bytes), ([43] : Bytes), ([45] : Bytes), ([42] : Bytes), ([47] : Bytes), ([37] : Bytes)]) op_0)
set_option maxHeartbeats 4000000 in
theorem ref16_sign_ok (op_0 : Int) (r : Bytes) (h0 : ref16_sign op_0 = some r) : PCalls Tryz.prog 41 [eI op_0] (· = .p (eS r)) := by
 unfold ref16_sign at h0
 refine pbodyA good Tryz.func41 rfl rfl rfl fun w0 => mP (fun v : Bytes => .p (eS v)) ?_
 refine nx 6 rfl (mO rfl (op_bslice eS [([] : Bytes), ([33] : Bytes), ([45] : Bytes), ([124, 124] : Bytes), ([38, 38] : Bytes), ([61, 61] : Bytes), ([33, 61] : Bytes), ([60] : Bytes), ([60, 61] : Bytes), ([62] : Bytes), ([62, 61] : Bytes), ([43] : Bytes), ([45] : Bytes), ([42] : Bytes), ([47] : Bytes), ([37] : Bytes)] rfl rfl rfl rfl rfl rfl rfl rfl rfl rfl rfl rfl rfl rfl ?_))
 refine nx 6 rfl (oE h0 (fun _ => rfl) rfl rfl (fun _ => rfl) fun hk1 h0 => ?_)
 exact nx 4 rfl (mQ (oi h0) rfl (sr))
def ref16_template_l1 (n : Nat) (r_ref16_Expr : TExpr → Option Bytes) (l_0 : List TExpr) : Nat → Bytes → Bool → Int → Option Bytes
 | 0, _, _, _ => none
 | m + 1, s27, before28, i29 =>
 if i29 < (l_0.length : Int) then
  (
    (
      ck ((0 : Int) ≤ i29 ∧ i29 < (l_0.length : Int)) <|
      (ref16_plain (lat l_0 i29)).bind fun r32 =>
      if r32 = true then
       if (!before28) = true then
        some (decide (1 < (l_0.length : Int)))
       else
        some false
      else
       some false
     : Option Bool).bind fun t36 =>
    if t36 = true then
     ck ((0 : Int) ≤ i29 ∧ i29 < (l_0.length : Int)) <|
     ck (inR ((l_0.length : Int) - 1)) <|
     (ref16_part n (((lat l_0 i29).fValue).fStr) (decide (i29 = (l_0.length : Int) - 1))).bind fun r40 =>
     ck (s27.length + r40.length ≤ 9223372036854775807) <|
     some (s27 ++ r40, true)
    else
     ck (s27.length + ([36] : Bytes).length ≤ 9223372036854775807) <|
     ck ((s27 ++ ([36] : Bytes)).length + ([123] : Bytes).length ≤ 9223372036854775807) <|
     ck ((0 : Int) ≤ i29 ∧ i29 < (l_0.length : Int)) <|
     (r_ref16_Expr (lat l_0 i29)).bind fun r46 =>
     ck (((s27 ++ ([36] : Bytes)) ++ ([123] : Bytes)).length + r46.length ≤ 9223372036854775807) <|
     ck ((((s27 ++ ([36] : Bytes)) ++ ([123] : Bytes)) ++ r46).length + ([125] : Bytes).length ≤ 9223372036854775807) <|
     some ((((s27 ++ ([36] : Bytes)) ++ ([123] : Bytes)) ++ r46) ++ ([125] : Bytes), false)
   : Option (Bytes × Bool)).bind fun q60 =>
  ck (inR (i29 + 1)) <|
  ref16_template_l1 n r_ref16_Expr l_0 m q60.1 q60.2 (i29 + 1)
 else
  some s27
def ref16_list_l1 (r_ref16_Expr : TExpr → Option Bytes) (l_0 : List TExpr) : Nat → Bytes → Int → Option Bytes
 | 0, _, _ => none
 | m + 1, s12, i13 =>
 if i13 < (l_0.length : Int) then
  (
    if 0 < i13 then
     ck (s12.length + ([44, 32] : Bytes).length ≤ 9223372036854775807) <|
     some (s12 ++ ([44, 32] : Bytes))
    else
     some s12
   : Option Bytes).bind fun s17 =>
  ck ((0 : Int) ≤ i13 ∧ i13 < (l_0.length : Int)) <|
  (r_ref16_Expr (lat l_0 i13)).bind fun r19 =>
  ck (s17.length + r19.length ≤ 9223372036854775807) <|
  ck (inR (i13 + 1)) <|
  ref16_list_l1 r_ref16_Expr l_0 m (s17 ++ r19) (i13 + 1)
 else
  some s12
def ref16_mapping_l1 (r_ref16_Expr : TExpr → Option Bytes) (r_ref16_key : TExpr → Option Bytes) (l_0 : List TExpr) : Nat → Bytes → Int → Option Bytes
 | 0, _, _ => none
 | m + 1, s19, i20 =>
 ck (inR (i20 + 1)) <|
 if i20 + 1 < (l_0.length : Int) then
  (
    if 0 < i20 then
     ck (s19.length + ([44, 32] : Bytes).length ≤ 9223372036854775807) <|
     some (s19 ++ ([44, 32] : Bytes))
    else
     some s19
   : Option Bytes).bind fun s25 =>
  ck ((0 : Int) ≤ i20 ∧ i20 < (l_0.length : Int)) <|
  (r_ref16_key (lat l_0 i20)).bind fun r27 =>
  ck (s25.length + r27.length ≤ 9223372036854775807) <|
  ck ((s25 ++ r27).length + ([32, 61, 32] : Bytes).length ≤ 9223372036854775807) <|
  ck (inR (i20 + 1)) <|
  ck ((0 : Int) ≤ i20 + 1 ∧ i20 + 1 < (l_0.length : Int)) <|
  (r_ref16_Expr (lat l_0 (i20 + 1))).bind fun r33 =>
  ck (((s25 ++ r27) ++ ([32, 61, 32] : Bytes)).length + r33.length ≤ 9223372036854775807) <|
  ck (inR (i20 + 2)) <|
  ref16_mapping_l1 r_ref16_Expr r_ref16_key l_0 m (((s25 ++ r27) ++ ([32, 61, 32] : Bytes)) ++ r33) (i20 + 2)
 else
  some s19
mutual
def ref16_Expr : Nat → TExpr → Option Bytes
 | 0, _ => none
 | n + 1, e_0 =>
 if e_0.fKind = 1 then
  (ref16_literal n e_0.fValue).bind fun r2 =>
  some r2
 else
  if e_0.fKind = 2 then
   ((ref16_template n) e_0.fKids).bind fun r5 =>
   some r5
  else
   if e_0.fKind = 3 then
    some e_0.fName
   else
    if e_0.fKind = 4 then
     ck ((0 : Int) ≤ 0 ∧ 0 < (e_0.fKids.length : Int)) <|
     ((ref16_at n) (lat e_0.fKids 0) 8).bind fun r10 =>
     ck (r10.length + ([46] : Bytes).length ≤ 9223372036854775807) <|
     ck ((r10 ++ ([46] : Bytes)).length + e_0.fName.length ≤ 9223372036854775807) <|
     some ((r10 ++ ([46] : Bytes)) ++ e_0.fName)
    else
     if e_0.fKind = 5 then
      ck ((0 : Int) ≤ 0 ∧ 0 < (e_0.fKids.length : Int)) <|
      ((ref16_at n) (lat e_0.fKids 0) 8).bind fun r16 =>
      ck (r16.length + ([91] : Bytes).length ≤ 9223372036854775807) <|
      ck ((0 : Int) ≤ 1 ∧ 1 < (e_0.fKids.length : Int)) <|
      ((ref16_Expr n) (lat e_0.fKids 1)).bind fun r20 =>
      ck ((r16 ++ ([91] : Bytes)).length + r20.length ≤ 9223372036854775807) <|
      ck (((r16 ++ ([91] : Bytes)) ++ r20).length + ([93] : Bytes).length ≤ 9223372036854775807) <|
      some (((r16 ++ ([91] : Bytes)) ++ r20) ++ ([93] : Bytes))
     else
      if e_0.fKind = 6 then
       (ref16_sign e_0.fOp).bind fun r25 =>
       ck ((0 : Int) ≤ 0 ∧ 0 < (e_0.fKids.length : Int)) <|
       ((ref16_at n) (lat e_0.fKids 0) 7).bind fun r28 =>
       ck (r25.length + r28.length ≤ 9223372036854775807) <|
       some (r25 ++ r28)
      else
       if e_0.fKind = 7 then
        (ref16_binary e_0.fOp).bind fun r32 =>
        ck ((0 : Int) ≤ 0 ∧ 0 < (e_0.fKids.length : Int)) <|
        ((ref16_at n) (lat e_0.fKids 0) r32).bind fun r35 =>
        ck (r35.length + ([32] : Bytes).length ≤ 9223372036854775807) <|
        (ref16_sign e_0.fOp).bind fun r38 =>
        ck ((r35 ++ ([32] : Bytes)).length + r38.length ≤ 9223372036854775807) <|
        ck (((r35 ++ ([32] : Bytes)) ++ r38).length + ([32] : Bytes).length ≤ 9223372036854775807) <|
        ck ((0 : Int) ≤ 1 ∧ 1 < (e_0.fKids.length : Int)) <|
        ck (inR (r32 + 1)) <|
        ((ref16_at n) (lat e_0.fKids 1) (r32 + 1)).bind fun r44 =>
        ck ((((r35 ++ ([32] : Bytes)) ++ r38) ++ ([32] : Bytes)).length + r44.length ≤ 9223372036854775807) <|
        some ((((r35 ++ ([32] : Bytes)) ++ r38) ++ ([32] : Bytes)) ++ r44)
       else
        if e_0.fKind = 8 then
         ck ((0 : Int) ≤ 0 ∧ 0 < (e_0.fKids.length : Int)) <|
         ((ref16_at n) (lat e_0.fKids 0) 1).bind fun r49 =>
         ck (r49.length + ([32, 63, 32] : Bytes).length ≤ 9223372036854775807) <|
         ck ((0 : Int) ≤ 1 ∧ 1 < (e_0.fKids.length : Int)) <|
         ((ref16_Expr n) (lat e_0.fKids 1)).bind fun r53 =>
         ck ((r49 ++ ([32, 63, 32] : Bytes)).length + r53.length ≤ 9223372036854775807) <|
         ck (((r49 ++ ([32, 63, 32] : Bytes)) ++ r53).length + ([32, 58, 32] : Bytes).length ≤ 9223372036854775807) <|
         ck ((0 : Int) ≤ 2 ∧ 2 < (e_0.fKids.length : Int)) <|
         ((ref16_Expr n) (lat e_0.fKids 2)).bind fun r58 =>
         ck ((((r49 ++ ([32, 63, 32] : Bytes)) ++ r53) ++ ([32, 58, 32] : Bytes)).length + r58.length ≤ 9223372036854775807) <|
         some ((((r49 ++ ([32, 63, 32] : Bytes)) ++ r53) ++ ([32, 58, 32] : Bytes)) ++ r58)
        else
         if e_0.fKind = 9 then
          ck (e_0.fName.length + ([40] : Bytes).length ≤ 9223372036854775807) <|
          ((ref16_list n) e_0.fKids).bind fun r63 =>
          ck ((e_0.fName ++ ([40] : Bytes)).length + r63.length ≤ 9223372036854775807) <|
          ck (((e_0.fName ++ ([40] : Bytes)) ++ r63).length + ([41] : Bytes).length ≤ 9223372036854775807) <|
          some (((e_0.fName ++ ([40] : Bytes)) ++ r63) ++ ([41] : Bytes))
         else
          if e_0.fKind = 10 then
           ((ref16_list n) e_0.fKids).bind fun r68 =>
           ck (([91] : Bytes).length + r68.length ≤ 9223372036854775807) <|
           ck ((([91] : Bytes) ++ r68).length + ([93] : Bytes).length ≤ 9223372036854775807) <|
           some ((([91] : Bytes) ++ r68) ++ ([93] : Bytes))
          else
           if e_0.fKind = 11 then
            ((ref16_mapping n) e_0.fKids).bind fun r73 =>
            some r73
           else
            if e_0.fKind = 12 then
             ((ref16_loop n) e_0).bind fun r76 =>
             ck (([91] : Bytes).length + r76.length ≤ 9223372036854775807) <|
             ck ((([91] : Bytes) ++ r76).length + ([93] : Bytes).length ≤ 9223372036854775807) <|
             some ((([91] : Bytes) ++ r76) ++ ([93] : Bytes))
            else
             ((ref16_loop n) e_0).bind fun r80 =>
             ck (([123] : Bytes).length + r80.length ≤ 9223372036854775807) <|
             ck ((([123] : Bytes) ++ r80).length + ([125] : Bytes).length ≤ 9223372036854775807) <|
             some ((([123] : Bytes) ++ r80) ++ ([125] : Bytes))
def ref16_template : Nat → (List TExpr) → Option Bytes
 | 0, _ => none
 | n + 1, l_0 =>
 (ref16_template_l1 n (ref16_Expr n) l_0 n ([] : Bytes) false 0).bind fun s56 =>
 ck (([34] : Bytes).length + s56.length ≤ 9223372036854775807) <|
 ck ((([34] : Bytes) ++ s56).length + ([34] : Bytes).length ≤ 9223372036854775807) <|
 some ((([34] : Bytes) ++ s56) ++ ([34] : Bytes))
def ref16_at : Nat → TExpr → Int → Option Bytes
 | 0, _, _ => none
 | n + 1, e_0, least_1 =>
 (ref16_level e_0).bind fun r1 =>
 if r1 < least_1 then
  ((ref16_Expr n) e_0).bind fun r4 =>
  ck (([40] : Bytes).length + r4.length ≤ 9223372036854775807) <|
  ck ((([40] : Bytes) ++ r4).length + ([41] : Bytes).length ≤ 9223372036854775807) <|
  some ((([40] : Bytes) ++ r4) ++ ([41] : Bytes))
 else
  ((ref16_Expr n) e_0).bind fun r8 =>
  some r8
def ref16_list : Nat → (List TExpr) → Option Bytes
 | 0, _ => none
 | n + 1, l_0 =>
 (ref16_list_l1 (ref16_Expr n) l_0 n ([] : Bytes) 0).bind fun s25 =>
 some s25
def ref16_mapping : Nat → (List TExpr) → Option Bytes
 | 0, _ => none
 | n + 1, l_0 =>
 (ref16_mapping_l1 (ref16_Expr n) (ref16_key n) l_0 n ([123] : Bytes) 0).bind fun s39 =>
 ck (s39.length + ([125] : Bytes).length ≤ 9223372036854775807) <|
 some (s39 ++ ([125] : Bytes))
def ref16_loop : Nat → TExpr → Option Bytes
 | 0, _ => none
 | n + 1, e_0 =>
 (
   if e_0.fKey = ([] : Bytes) then
    some ([102, 111, 114, 32] : Bytes)
   else
    ck (([102, 111, 114, 32] : Bytes).length + e_0.fKey.length ≤ 9223372036854775807) <|
    ck ((([102, 111, 114, 32] : Bytes) ++ e_0.fKey).length + ([44, 32] : Bytes).length ≤ 9223372036854775807) <|
    some ((([102, 111, 114, 32] : Bytes) ++ e_0.fKey) ++ ([44, 32] : Bytes))
  : Option Bytes).bind fun s4 =>
 ck (s4.length + e_0.fName.length ≤ 9223372036854775807) <|
 ck ((s4 ++ e_0.fName).length + ([32, 105, 110, 32] : Bytes).length ≤ 9223372036854775807) <|
 ck ((0 : Int) ≤ 0 ∧ 0 < (e_0.fKids.length : Int)) <|
 ((ref16_Expr n) (lat e_0.fKids 0)).bind fun r8 =>
 ck (((s4 ++ e_0.fName) ++ ([32, 105, 110, 32] : Bytes)).length + r8.length ≤ 9223372036854775807) <|
 ck ((((s4 ++ e_0.fName) ++ ([32, 105, 110, 32] : Bytes)) ++ r8).length + ([32, 58, 32] : Bytes).length ≤ 9223372036854775807) <|
 ck ((0 : Int) ≤ 1 ∧ 1 < (e_0.fKids.length : Int)) <|
 ((ref16_Expr n) (lat e_0.fKids 1)).bind fun r13 =>
 ck (((((s4 ++ e_0.fName) ++ ([32, 105, 110, 32] : Bytes)) ++ r8) ++ ([32, 58, 32] : Bytes)).length + r13.length ≤ 9223372036854775807) <|
 (
   if e_0.fKind = 13 then
    ck ((((((s4 ++ e_0.fName) ++ ([32, 105, 110, 32] : Bytes)) ++ r8) ++ ([32, 58, 32] : Bytes)) ++ r13).length + ([32, 61, 62, 32] : Bytes).length ≤ 9223372036854775807) <|
    ck ((0 : Int) ≤ 2 ∧ 2 < (e_0.fKids.length : Int)) <|
    ((ref16_Expr n) (lat e_0.fKids 2)).bind fun r19 =>
    ck (((((((s4 ++ e_0.fName) ++ ([32, 105, 110, 32] : Bytes)) ++ r8) ++ ([32, 58, 32] : Bytes)) ++ r13) ++ ([32, 61, 62, 32] : Bytes)).length + r19.length ≤ 9223372036854775807) <|
    some (((((((s4 ++ e_0.fName) ++ ([32, 105, 110, 32] : Bytes)) ++ r8) ++ ([32, 58, 32] : Bytes)) ++ r13) ++ ([32, 61, 62, 32] : Bytes)) ++ r19, 3)
   else
    some (((((s4 ++ e_0.fName) ++ ([32, 105, 110, 32] : Bytes)) ++ r8) ++ ([32, 58, 32] : Bytes)) ++ r13, 2)
  : Option (Bytes × Int)).bind fun q32 =>
 (
   if q32.2 < (e_0.fKids.length : Int) then
    ck (q32.1.length + ([32, 105, 102, 32] : Bytes).length ≤ 9223372036854775807) <|
    ck ((0 : Int) ≤ q32.2 ∧ q32.2 < (e_0.fKids.length : Int)) <|
    ((ref16_Expr n) (lat e_0.fKids q32.2)).bind fun r27 =>
    ck ((q32.1 ++ ([32, 105, 102, 32] : Bytes)).length + r27.length ≤ 9223372036854775807) <|
    some ((q32.1 ++ ([32, 105, 102, 32] : Bytes)) ++ r27)
   else
    some q32.1
  : Option Bytes).bind fun s30 =>
 some s30
def ref16_key : Nat → TExpr → Option Bytes
 | 0, _ => none
 | n + 1, e_0 =>
 if e_0.fKind = 2 then
  ((ref16_Expr n) e_0).bind fun r2 =>
  some r2
 else
  (
    if e_0.fKind = 1 then
     some (decide (e_0.fValue.fKind = 3))
    else
     some false
   : Option Bool).bind fun t5 =>
  if t5 = true then
   (ref14_Name n e_0.fValue.fStr).bind fun r7 =>
   if r7 = true then
    some e_0.fValue.fStr
   else
    ((ref16_Expr n) e_0).bind fun r10 =>
    some r10
  else
   ((ref16_Expr n) e_0).bind fun r12 =>
   ck (([40] : Bytes).length + r12.length ≤ 9223372036854775807) <|
   ck ((([40] : Bytes) ++ r12).length + ([41] : Bytes).length ≤ 9223372036854775807) <|
   some ((([40] : Bytes) ++ r12) ++ ([41] : Bytes))
end
set_option maxHeartbeats 4000000 in
theorem ref16_Expr_all (n : Nat) : (∀ (e_0 : TExpr) (r : Bytes), ref16_Expr n e_0 = some r → PCalls Tryz.prog 11 [.agg (TExpr.cs e_0)] (· = .p (eS r))) ∧ (∀ (l_0 : List TExpr) (r : Bytes), ref16_template n l_0 = some r → PCalls Tryz.prog 39 [eL eTExpr l_0] (· = .p (eS r))) ∧ (∀ (e_0 : TExpr) (least_1 : Int) (r : Bytes), ref16_at n e_0 least_1 = some r → PCalls Tryz.prog 40 [.agg (TExpr.cs e_0), eI least_1] (· = .p (eS r))) ∧ (∀ (l_0 : List TExpr) (r : Bytes), ref16_list n l_0 = some r → PCalls Tryz.prog 43 [eL eTExpr l_0] (· = .p (eS r))) ∧ (∀ (l_0 : List TExpr) (r : Bytes), ref16_mapping n l_0 = some r → PCalls Tryz.prog 44 [eL eTExpr l_0] (· = .p (eS r))) ∧ (∀ (e_0 : TExpr) (r : Bytes), ref16_loop n e_0 = some r → PCalls Tryz.prog 45 [.agg (TExpr.cs e_0)] (· = .p (eS r))) ∧ (∀ (e_0 : TExpr) (r : Bytes), ref16_key n e_0 = some r → PCalls Tryz.prog 87 [.agg (TExpr.cs e_0)] (· = .p (eS r))) := by
 induction n with
 | zero => exact ⟨(by intro e_0 r h0; cases h0), (by intro l_0 r h0; cases h0), (by intro e_0 least_1 r h0; cases h0), (by intro l_0 r h0; cases h0), (by intro l_0 r h0; cases h0), (by intro e_0 r h0; cases h0), (by intro e_0 r h0; cases h0)⟩
 | succ n ih =>
 obtain ⟨ih_ref16_Expr_ok, ih_ref16_template_ok, ih_ref16_at_ok, ih_ref16_list_ok, ih_ref16_mapping_ok, ih_ref16_loop_ok, ih_ref16_key_ok⟩ := ih
 refine ⟨?_, ?_, ?_, ?_, ?_, ?_, ?_⟩
 ·skip
  intro e_0 r h0
  rw [ref16_Expr] at h0
  refine pbodyA good Tryz.func11 rfl rfl rfl fun w0 => mP (fun v : Bytes => .p (eS v)) ?_
  refine nx 17 rfl (fD [6, 7] h0 rfl (fun c1 h0 => ?_) fun c1 h0 => ?_)
  ·refine nx 5 rfl (bd h0 fun r2 e3 h0 => ?_)
   refine oK (ref16_literal_ok _ e_0.fValue _ e3) rfl ⟨sr, trivial⟩ Tryz.call38 rfl (nx 3 rfl ?_)
   exact mQ (oi h0) rfl (sr)
  refine nx 6 rfl (fD [11, 12] h0 rfl (fun c4 h0 => ?_) fun c4 h0 => ?_)
  ·refine nx 5 rfl (bd h0 fun r5 e6 h0 => ?_)
   refine oK (ih_ref16_template_ok e_0.fKids _ e6) rfl ⟨sr, trivial⟩ Tryz.call39 rfl (nx 3 rfl ?_)
   exact mQ (oi h0) rfl (sr)
  refine nx 6 rfl (fD [16, 17] h0 rfl (fun c7 h0 => ?_) fun c7 h0 => ?_)
  ·exact nx 8 rfl (mQ (oi h0) rfl (sr))
  refine nx 6 rfl (fD [20, 21] h0 rfl (fun c8 h0 => ?_) fun c8 h0 => ?_)
  ·refine nx 2 rfl (cc' h0 fun hk9 h0 => ?_)
   refine bd h0 fun r10 e11 h0 => cc' h0 fun hk12 h0 => cc' h0 fun hk13 h0 => mD [(1, .ptr 1 0)] rfl ⟨rfl, trivial⟩ rfl (dR 2 rfl ?_)
   refine dq (.rptr (TExpr.cs (lat e_0.fKids 0))) [23] rfl (fun _ e _ q => one_op rfl (op_at (f := eTExpr) (l := e_0.fKids) TExpr.cs rfl rfl rfl rfl rfl rfl (e _ _ rfl) rfl rfl hk9 TExpr.cells_eq (fun _ => rfl) q)) rfl (dR 1 rfl ?_)
   refine dq (.p (eS r10)) [25] rfl (fun _ e _ q => one_op rfl (ok_callP (ih_ref16_at_ok (lat e_0.fKids 0) 8 _ e11) rfl rfl rfl (args_cons (e _ _ rfl) (args_cons rfl args_nil)) ⟨sr, sr, trivial⟩ Tryz.call40 rfl q)) rfl (dq (.p (eS (r10 ++ ([46] : Bytes)))) [26] rfl (fun _ e _ q => one_op rfl (ok_concat rfl rfl rfl (e _ _ rfl) rfl hk12 q)) rfl ?_)
   refine dR 2 rfl (dq (.p (eS ((r10 ++ ([46] : Bytes)) ++ e_0.fName))) [27,29] rfl (fun _ e _ q => one_op rfl (ok_concat rfl rfl rfl (e _ _ rfl) (e _ _ rfl) hk13 q)) rfl ?_)
   refine dR 1 rfl (dE rfl ?_)
   exact nx 2 rfl (mQ (oi h0) rfl (sr))
  refine nx 6 rfl (fD [31, 32] h0 rfl (fun c14 h0 => ?_) fun c14 h0 => ?_)
  ·refine nx 2 rfl (cc' h0 fun hk15 h0 => ?_)
   refine bd h0 fun r16 e17 h0 => cc' h0 fun hk18 h0 => cc' h0 fun hk19 h0 => bd h0 fun r20 e21 h0 => cc' h0 fun hk22 h0 => cc' h0 fun hk23 h0 => mD [(1, .ptr 1 0)] rfl ⟨rfl, trivial⟩ rfl (dR 2 rfl ?_)
   refine dq (.rptr (TExpr.cs (lat e_0.fKids 0))) [34] rfl (fun _ e _ q => one_op rfl (op_at (f := eTExpr) (l := e_0.fKids) TExpr.cs rfl rfl rfl rfl rfl rfl (e _ _ rfl) rfl rfl hk15 TExpr.cells_eq (fun _ => rfl) q)) rfl (dR 1 rfl ?_)
   refine dq (.p (eS r16)) [36] rfl (fun _ e _ q => one_op rfl (ok_callP (ih_ref16_at_ok (lat e_0.fKids 0) 8 _ e17) rfl rfl rfl (args_cons (e _ _ rfl) (args_cons rfl args_nil)) ⟨sr, sr, trivial⟩ Tryz.call40 rfl q)) rfl (dq (.p (eS (r16 ++ ([91] : Bytes)))) [37] rfl (fun _ e _ q => one_op rfl (ok_concat rfl rfl rfl (e _ _ rfl) rfl hk18 q)) rfl ?_)
   refine dR 2 rfl (dq (.rptr (TExpr.cs (lat e_0.fKids 1))) [40] rfl (fun _ e _ q => one_op rfl (op_at (f := eTExpr) (l := e_0.fKids) TExpr.cs rfl rfl rfl rfl rfl rfl (e _ _ rfl) rfl rfl hk19 TExpr.cells_eq (fun _ => rfl) q)) rfl ?_)
   refine dR 1 rfl (dq (.p (eS r20)) [42] rfl (fun _ e _ q => one_op rfl (ok_callP (ih_ref16_Expr_ok (lat e_0.fKids 1) _ e21) rfl rfl rfl (args_cons (e _ _ rfl) args_nil) ⟨sr, trivial⟩ Tryz.call11 rfl q)) rfl ?_)
   refine dq (.p (eS ((r16 ++ ([91] : Bytes)) ++ r20))) [38,43] rfl (fun _ e _ q => one_op rfl (ok_concat rfl rfl rfl (e _ _ rfl) (e _ _ rfl) hk22 q)) rfl (dq (.p (eS (((r16 ++ ([91] : Bytes)) ++ r20) ++ ([93] : Bytes)))) [44] rfl (fun _ e _ q => one_op rfl (ok_concat rfl rfl rfl (e _ _ rfl) rfl hk23 q)) rfl ?_)
   refine dR 1 rfl (dE rfl ?_)
   exact nx 2 rfl (mQ (oi h0) rfl (sr))
  refine nx 6 rfl (fD [46, 47] h0 rfl (fun c24 h0 => ?_) fun c24 h0 => ?_)
  ·refine nx 2 rfl (bd h0 fun r25 e26 h0 => ?_)
   refine cc' h0 fun hk27 h0 => bd h0 fun r28 e29 h0 => cc' h0 fun hk30 h0 => mD [(1, .ptr 1 0)] rfl ⟨rfl, trivial⟩ rfl (dR 2 rfl ?_)
   refine dq (.p (eS r25)) [49] rfl (fun _ e _ q => one_op rfl (ok_callP (ref16_sign_ok e_0.fOp _ e26) rfl rfl rfl (args_cons (e _ _ rfl) args_nil) ⟨sr, trivial⟩ Tryz.call41 rfl q)) rfl (dR 2 rfl ?_)
   refine dq (.rptr (TExpr.cs (lat e_0.fKids 0))) [52] rfl (fun _ e _ q => one_op rfl (op_at (f := eTExpr) (l := e_0.fKids) TExpr.cs rfl rfl rfl rfl rfl rfl (e _ _ rfl) rfl rfl hk27 TExpr.cells_eq (fun _ => rfl) q)) rfl (dR 1 rfl ?_)
   refine dq (.p (eS r28)) [54] rfl (fun _ e _ q => one_op rfl (ok_callP (ih_ref16_at_ok (lat e_0.fKids 0) 7 _ e29) rfl rfl rfl (args_cons (e _ _ rfl) (args_cons rfl args_nil)) ⟨sr, sr, trivial⟩ Tryz.call40 rfl q)) rfl (dq (.p (eS (r25 ++ r28))) [50,55] rfl (fun _ e _ q => one_op rfl (ok_concat rfl rfl rfl (e _ _ rfl) (e _ _ rfl) hk30 q)) rfl ?_)
   refine dR 1 rfl (dE rfl ?_)
   exact nx 2 rfl (mQ (oi h0) rfl (sr))
  refine nx 6 rfl (fD [57, 58] h0 rfl (fun c31 h0 => ?_) fun c31 h0 => ?_)
  ·refine nx 5 rfl (bd h0 fun r32 e33 h0 => ?_)
   refine oK (ref16_binary_ok e_0.fOp _ e33) rfl ⟨sr, trivial⟩ Tryz.call42 rfl (nx 3 rfl ?_)
   refine cc' h0 fun hk34 h0 => bd h0 fun r35 e36 h0 => cc' h0 fun hk37 h0 => bd h0 fun r38 e39 h0 => cc' h0 fun hk40 h0 => cc' h0 fun hk41 h0 => cc' h0 fun hk42 h0 => cc' h0 fun hk43 h0 => bd h0 fun r44 e45 h0 => cc' h0 fun hk46 h0 => mD [(1, .ptr 1 0), (3, .p (eI r32))] rfl ⟨rfl, rfl, trivial⟩ rfl (dR 2 rfl ?_)
   refine dq (.rptr (TExpr.cs (lat e_0.fKids 0))) [63] rfl (fun _ e _ q => one_op rfl (op_at (f := eTExpr) (l := e_0.fKids) TExpr.cs rfl rfl rfl rfl rfl rfl (e _ _ rfl) rfl rfl hk34 TExpr.cells_eq (fun _ => rfl) q)) rfl (dR 2 rfl ?_)
   refine dq (.p (eS r35)) [65,66] rfl (fun _ e _ q => one_op rfl (ok_callP (ih_ref16_at_ok (lat e_0.fKids 0) r32 _ e36) rfl rfl rfl (args_cons (e _ _ rfl) (args_cons (e _ _ rfl) args_nil)) ⟨sr, sr, trivial⟩ Tryz.call40 rfl q)) rfl (dq (.p (eS (r35 ++ ([32] : Bytes)))) [67] rfl (fun _ e _ q => one_op rfl (ok_concat rfl rfl rfl (e _ _ rfl) rfl hk37 q)) rfl ?_)
   refine dR 2 rfl (dq (.p (eS r38)) [70] rfl (fun _ e _ q => one_op rfl (ok_callP (ref16_sign_ok e_0.fOp _ e39) rfl rfl rfl (args_cons (e _ _ rfl) args_nil) ⟨sr, trivial⟩ Tryz.call41 rfl q)) rfl ?_)
   refine dq (.p (eS ((r35 ++ ([32] : Bytes)) ++ r38))) [68,71] rfl (fun _ e _ q => one_op rfl (ok_concat rfl rfl rfl (e _ _ rfl) (e _ _ rfl) hk40 q)) rfl (dq (.p (eS (((r35 ++ ([32] : Bytes)) ++ r38) ++ ([32] : Bytes)))) [72] rfl (fun _ e _ q => one_op rfl (ok_concat rfl rfl rfl (e _ _ rfl) rfl hk41 q)) rfl ?_)
   refine dR 2 rfl (dq (.rptr (TExpr.cs (lat e_0.fKids 1))) [75] rfl (fun _ e _ q => one_op rfl (op_at (f := eTExpr) (l := e_0.fKids) TExpr.cs rfl rfl rfl rfl rfl rfl (e _ _ rfl) rfl rfl hk42 TExpr.cells_eq (fun _ => rfl) q)) rfl ?_)
   refine dR 2 rfl (dq (.p (eI (r32 + 1))) [78] rfl (fun _ e _ q => one_op rfl (ok_ar rfl rfl rfl (e _ _ rfl) rfl rfl hk43 q)) rfl ?_)
   refine dq (.p (eS r44)) [77,79] rfl (fun _ e _ q => one_op rfl (ok_callP (ih_ref16_at_ok (lat e_0.fKids 1) (r32 + 1) _ e45) rfl rfl rfl (args_cons (e _ _ rfl) (args_cons (e _ _ rfl) args_nil)) ⟨sr, sr, trivial⟩ Tryz.call40 rfl q)) rfl (dq (.p (eS ((((r35 ++ ([32] : Bytes)) ++ r38) ++ ([32] : Bytes)) ++ r44))) [73,80] rfl (fun _ e _ q => one_op rfl (ok_concat rfl rfl rfl (e _ _ rfl) (e _ _ rfl) hk46 q)) rfl ?_)
   refine dR 1 rfl (dE rfl ?_)
   exact nx 2 rfl (mQ (oi h0) rfl (sr))
  refine nx 6 rfl (fD [82, 83] h0 rfl (fun c47 h0 => ?_) fun c47 h0 => ?_)
  ·refine nx 2 rfl (cc' h0 fun hk48 h0 => ?_)
   refine bd h0 fun r49 e50 h0 => cc' h0 fun hk51 h0 => cc' h0 fun hk52 h0 => bd h0 fun r53 e54 h0 => cc' h0 fun hk55 h0 => cc' h0 fun hk56 h0 => cc' h0 fun hk57 h0 => bd h0 fun r58 e59 h0 => cc' h0 fun hk60 h0 => mD [(1, .ptr 1 0)] rfl ⟨rfl, trivial⟩ rfl (dR 2 rfl ?_)
   refine dq (.rptr (TExpr.cs (lat e_0.fKids 0))) [85] rfl (fun _ e _ q => one_op rfl (op_at (f := eTExpr) (l := e_0.fKids) TExpr.cs rfl rfl rfl rfl rfl rfl (e _ _ rfl) rfl rfl hk48 TExpr.cells_eq (fun _ => rfl) q)) rfl (dR 1 rfl ?_)
   refine dq (.p (eS r49)) [87] rfl (fun _ e _ q => one_op rfl (ok_callP (ih_ref16_at_ok (lat e_0.fKids 0) 1 _ e50) rfl rfl rfl (args_cons (e _ _ rfl) (args_cons rfl args_nil)) ⟨sr, sr, trivial⟩ Tryz.call40 rfl q)) rfl (dq (.p (eS (r49 ++ ([32, 63, 32] : Bytes)))) [88] rfl (fun _ e _ q => one_op rfl (ok_concat rfl rfl rfl (e _ _ rfl) rfl hk51 q)) rfl ?_)
   refine dR 2 rfl (dq (.rptr (TExpr.cs (lat e_0.fKids 1))) [91] rfl (fun _ e _ q => one_op rfl (op_at (f := eTExpr) (l := e_0.fKids) TExpr.cs rfl rfl rfl rfl rfl rfl (e _ _ rfl) rfl rfl hk52 TExpr.cells_eq (fun _ => rfl) q)) rfl ?_)
   refine dR 1 rfl (dq (.p (eS r53)) [93] rfl (fun _ e _ q => one_op rfl (ok_callP (ih_ref16_Expr_ok (lat e_0.fKids 1) _ e54) rfl rfl rfl (args_cons (e _ _ rfl) args_nil) ⟨sr, trivial⟩ Tryz.call11 rfl q)) rfl ?_)
   refine dq (.p (eS ((r49 ++ ([32, 63, 32] : Bytes)) ++ r53))) [89,94] rfl (fun _ e _ q => one_op rfl (ok_concat rfl rfl rfl (e _ _ rfl) (e _ _ rfl) hk55 q)) rfl (dq (.p (eS (((r49 ++ ([32, 63, 32] : Bytes)) ++ r53) ++ ([32, 58, 32] : Bytes)))) [95] rfl (fun _ e _ q => one_op rfl (ok_concat rfl rfl rfl (e _ _ rfl) rfl hk56 q)) rfl ?_)
   refine dR 2 rfl (dq (.rptr (TExpr.cs (lat e_0.fKids 2))) [98] rfl (fun _ e _ q => one_op rfl (op_at (f := eTExpr) (l := e_0.fKids) TExpr.cs rfl rfl rfl rfl rfl rfl (e _ _ rfl) rfl rfl hk57 TExpr.cells_eq (fun _ => rfl) q)) rfl ?_)
   refine dR 1 rfl (dq (.p (eS r58)) [100] rfl (fun _ e _ q => one_op rfl (ok_callP (ih_ref16_Expr_ok (lat e_0.fKids 2) _ e59) rfl rfl rfl (args_cons (e _ _ rfl) args_nil) ⟨sr, trivial⟩ Tryz.call11 rfl q)) rfl ?_)
   refine dq (.p (eS ((((r49 ++ ([32, 63, 32] : Bytes)) ++ r53) ++ ([32, 58, 32] : Bytes)) ++ r58))) [96,101] rfl (fun _ e _ q => one_op rfl (ok_concat rfl rfl rfl (e _ _ rfl) (e _ _ rfl) hk60 q)) rfl (dR 1 rfl ?_)
   refine dE rfl (nx 2 rfl ?_)
   exact mQ (oi h0) rfl (sr)
  refine nx 6 rfl (fD [103, 104] h0 rfl (fun c61 h0 => ?_) fun c61 h0 => ?_)
  ·refine nx 2 rfl (cc' h0 fun hk62 h0 => ?_)
   refine bd h0 fun r63 e64 h0 => cc' h0 fun hk65 h0 => cc' h0 fun hk66 h0 => mD [(1, .ptr 1 0)] rfl ⟨rfl, trivial⟩ rfl (dR 2 rfl ?_)
   refine dq (.p (eS (e_0.fName ++ ([40] : Bytes)))) [106] rfl (fun _ e _ q => one_op rfl (ok_concat rfl rfl rfl (e _ _ rfl) rfl hk62 q)) rfl (dR 2 rfl ?_)
   refine dq (.p (eS r63)) [109] rfl (fun _ e _ q => one_op rfl (ok_callP (ih_ref16_list_ok e_0.fKids _ e64) rfl rfl rfl (args_cons (e _ _ rfl) args_nil) ⟨sr, trivial⟩ Tryz.call43 rfl q)) rfl (dq (.p (eS ((e_0.fName ++ ([40] : Bytes)) ++ r63))) [107,110] rfl (fun _ e _ q => one_op rfl (ok_concat rfl rfl rfl (e _ _ rfl) (e _ _ rfl) hk65 q)) rfl ?_)
   refine dq (.p (eS (((e_0.fName ++ ([40] : Bytes)) ++ r63) ++ ([41] : Bytes)))) [111] rfl (fun _ e _ q => one_op rfl (ok_concat rfl rfl rfl (e _ _ rfl) rfl hk66 q)) rfl (dR 1 rfl ?_)
   refine dE rfl (nx 2 rfl ?_)
   exact mQ (oi h0) rfl (sr)
  refine nx 6 rfl (fD [113, 114] h0 rfl (fun c67 h0 => ?_) fun c67 h0 => ?_)
  ·refine nx 5 rfl (bd h0 fun r68 e69 h0 => ?_)
   refine oK (ih_ref16_list_ok e_0.fKids _ e69) rfl ⟨sr, trivial⟩ Tryz.call43 rfl (oC h0 rfl fun hk70 h0 => ?_)
   refine oC h0 rfl fun hk71 h0 => nx 2 rfl (mG (gE (t := ⟨[(2, .p (eS ((([91] : Bytes) ++ r68) ++ ([93] : Bytes))))], []⟩) rfl rfl) ?_)
   exact nx 1 rfl (mQ (oi h0) rfl (sr))
  refine nx 6 rfl (fD [120, 121] h0 rfl (fun c72 h0 => ?_) fun c72 h0 => ?_)
  ·refine nx 5 rfl (bd h0 fun r73 e74 h0 => ?_)
   refine oK (ih_ref16_mapping_ok e_0.fKids _ e74) rfl ⟨sr, trivial⟩ Tryz.call44 rfl (nx 2 rfl ?_)
   refine mG (gE (t := ⟨[(2, .p (eS r73))], []⟩) rfl rfl) (nx 1 rfl ?_)
   exact mQ (oi h0) rfl (sr)
  refine nx 6 rfl (mG (gE (t := ⟨[(1, .ptr 1 0), (125, .p (eB (decide (e_0.fKind = 12))))], [(1, (TExpr.cs e_0).map .p)]⟩) rfl rfl) ?_)
  refine fD [125] h0 rfl (fun c75 h0 => ?_) fun c75 h0 => ?_
  ·refine nx 4 rfl (bd h0 fun r76 e77 h0 => ?_)
   refine oK (ih_ref16_loop_ok e_0 _ e77) rfl ⟨sr, trivial⟩ Tryz.call45 rfl (oC h0 rfl fun hk78 h0 => ?_)
   exact oC h0 rfl fun hk79 h0 => nx 3 rfl (mQ (oi h0) rfl (sr))
  refine nx 5 rfl (bd h0 fun r80 e81 h0 => ?_)
  refine oK (ih_ref16_loop_ok e_0 _ e81) rfl ⟨sr, trivial⟩ Tryz.call45 rfl (oC h0 rfl fun hk82 h0 => ?_)
  exact oC h0 rfl fun hk83 h0 => nx 3 rfl (mQ (oi h0) rfl (sr))
 ·skip
  intro l_0 r h0
  rw [ref16_template] at h0
  refine pbodyA good Tryz.func39 rfl rfl rfl fun w0 => mP (fun v : Bytes => .p (eS v)) ?_
  refine nx 18 rfl (bd h0 fun o62 h1 h0 => ?_)
  refine kE 0 o62 (fun v63 => ⟨[(3, .p (eS v63))], []⟩) ?_ ?_
  ·refine nx 4 rfl (oC h0 rfl fun hk57 h0 => ?_)
   exact oC h0 rfl fun hk58 h0 => nx 3 rfl (mQ (oi h0) rfl (sr))
  refine lG (fun (q64 : Bytes × Bool × Int) => ⟨[(0, .p (eL eTExpr l_0)), (3, .p (eS q64.1)), (4, .p (eB q64.2.1)), (5, .p (eI q64.2.2))], []⟩) (fun m (q64 : Bytes × Bool × Int) => ref16_template_l1 n (ref16_Expr n) l_0 m q64.1 q64.2.1 q64.2.2) (fun _ => rfl) (([] : Bytes), false, 0) h1 (gE rfl rfl) ?_
  rintro m ⟨s27, before28, i29⟩ h1
  replace h1 : ref16_template_l1 n (ref16_Expr n) l_0 (m + 1) s27 before28 i29 = some o62 := h1
  rw [ref16_template_l1] at h1
  refine nx 5 rfl (oLl (f := eTExpr) rfl rfl ?_)
  refine nx 2 rfl (fD [9] h1 rfl (fun c30 h1 => ?_) fun c30 h1 => ?_)
  ·refine nx 3 rfl (bd h1 fun o65 h2 h1 => ?_)
   refine kN o65 (fun v66 => ⟨[(0, .p (eL eTExpr l_0)), (3, .p (eS v66.1)), (4, .p (eB v66.2)), (5, .p (eI i29))], []⟩) ?_ ?_
   ·refine nx 3 rfl (oA h1 rfl rfl fun hk52 h1 => ?_)
    exact nx 2 rfl (eX (o65.1, o65.2, i29 + 1) h1 (gE rfl rfl))
   refine nx 3 rfl (bd h2 fun o67 h3 h2 => ?_)
   refine kN o67 (fun v68 => ⟨[(0, .p (eL eTExpr l_0)), (3, .p (eS s27)), (5, .p (eI i29)), (25, .p (eB v68))], []⟩) ?_ ?_
   ·refine nx 1 rfl (fB [25] h2 rfl (fun c37 h2 => ?_) fun c37 h2 => ?_)
    ·refine nx 6 rfl (oE h2 TExpr.cells_eq rfl rfl (fun _ => rfl) fun hk38 h2 => ?_)
     refine nx 5 rfl (oLl (f := eTExpr) rfl rfl ?_)
     refine oA h2 rfl rfl fun hk39 h2 => nx 1 rfl (bd h2 fun r40 e41 h2 => ?_)
     refine oK (ref16_part_ok _ (((lat l_0 i29).fValue).fStr) (decide (i29 = (l_0.length : Int) - 1)) _ e41) rfl ⟨sr, sr, trivial⟩ Tryz.call85 rfl (oC h2 rfl fun hk42 h2 => ?_)
     exact nx 7 rfl (eX _ (oi h2).symm (gE rfl rfl))
    refine nx 5 rfl (oC h2 rfl fun hk43 h2 => ?_)
    refine oC h2 rfl fun hk44 h2 => nx 2 rfl (oE h2 TExpr.cells_eq rfl rfl (fun _ => rfl) fun hk45 h2 => ?_)
    refine nx 1 rfl (bd h2 fun r46 e47 h2 => ?_)
    refine oK (ih_ref16_Expr_ok (lat l_0 i29) _ e47) rfl ⟨sr, trivial⟩ Tryz.call11 rfl (oC h2 rfl fun hk48 h2 => ?_)
    exact oC h2 rfl fun hk49 h2 => nx 5 rfl (eX _ (oi h2).symm (gE rfl rfl))
   refine nx 3 rfl (oE h3 TExpr.cells_eq rfl rfl (fun _ => rfl) fun hk31 h3 => ?_)
   refine nx 1 rfl (bd h3 fun r32 e33 h3 => ?_)
   refine oK (ref16_plain_ok (lat l_0 i29) _ e33) rfl ⟨sr, trivial⟩ Tryz.call84 rfl (nx 1 rfl ?_)
   refine fB [16, 17] h3 rfl (fun c34 h3 => ?_) fun c34 h3 => ?_
   ·refine nx 4 rfl (fB [19, 20, 21] h3 rfl (fun c35 h3 => ?_) fun c35 h3 => ?_)
    ·refine nx 1 rfl (oLl (f := eTExpr) rfl rfl ?_)
     exact nx 3 rfl (eX _ (oi h3).symm (gE rfl rfl))
    exact nx 5 rfl (eX _ (oi h3).symm (gE rfl rfl))
   exact nx 9 rfl (eX _ (oi h3).symm (gE rfl rfl))
  exact nx 2 rfl (eXi _ (oi h1).symm (gE rfl rfl))
 ·skip
  intro e_0 least_1 r h0
  rw [ref16_at] at h0
  refine pbodyA good Tryz.func40 rfl rfl rfl fun w0 => mP (fun v : Bytes => .p (eS v)) ?_
  refine nx 9 rfl (bd h0 fun r1 e2 h0 => ?_)
  refine oK (ref16_level_ok e_0 _ e2) rfl ⟨sr, trivial⟩ Tryz.call86 rfl (nx 3 rfl ?_)
  refine fD [8] h0 rfl (fun c3 h0 => ?_) fun c3 h0 => ?_
  ·refine nx 4 rfl (bd h0 fun r4 e5 h0 => ?_)
   refine oK (ih_ref16_Expr_ok e_0 _ e5) rfl ⟨sr, trivial⟩ Tryz.call11 rfl (oC h0 rfl fun hk6 h0 => ?_)
   exact oC h0 rfl fun hk7 h0 => nx 3 rfl (mQ (oi h0) rfl (sr))
  refine nx 5 rfl (bd h0 fun r8 e9 h0 => ?_)
  refine oK (ih_ref16_Expr_ok e_0 _ e9) rfl ⟨sr, trivial⟩ Tryz.call11 rfl (nx 3 rfl ?_)
  exact mQ (oi h0) rfl (sr)
 ·skip
  intro l_0 r h0
  rw [ref16_list] at h0
  refine pbodyA good Tryz.func43 rfl rfl rfl fun w0 => mP (fun v : Bytes => .p (eS v)) ?_
  refine nx 14 rfl (bd h0 fun o28 h1 h0 => ?_)
  refine kE 0 o28 (fun v29 => ⟨[(3, .p (eS v29))], []⟩) ?_ ?_
  ·exact nx 7 rfl (mQ (oi h0) rfl (sr))
  refine lG (fun (q30 : Bytes × Int) => ⟨[(0, .p (eL eTExpr l_0)), (3, .p (eS q30.1)), (4, .p (eI q30.2))], []⟩) (fun m (q30 : Bytes × Int) => ref16_list_l1 (ref16_Expr n) l_0 m q30.1 q30.2) (fun _ => rfl) (([] : Bytes), 0) h1 (gE rfl rfl) ?_
  rintro m ⟨s12, i13⟩ h1
  replace h1 : ref16_list_l1 (ref16_Expr n) l_0 (m + 1) s12 i13 = some o28 := h1
  rw [ref16_list_l1] at h1
  refine nx 5 rfl (oLl (f := eTExpr) rfl rfl ?_)
  refine nx 2 rfl (fD [8] h1 rfl (fun c14 h1 => ?_) fun c14 h1 => ?_)
  ·refine nx 5 rfl (bd h1 fun o31 h2 h1 => ?_)
   refine kN o31 (fun v32 => ⟨[(0, .p (eL eTExpr l_0)), (3, .p (eS v32)), (4, .p (eI i13))], []⟩) ?_ ?_
   ·refine nx 5 rfl (oE h1 TExpr.cells_eq rfl rfl (fun _ => rfl) fun hk18 h1 => ?_)
    refine nx 1 rfl (bd h1 fun r19 e20 h1 => ?_)
    refine oK (ih_ref16_Expr_ok (lat l_0 i13) _ e20) rfl ⟨sr, trivial⟩ Tryz.call11 rfl (oC h1 rfl fun hk21 h1 => ?_)
    refine nx 4 rfl (oA h1 rfl rfl fun hk22 h1 => ?_)
    exact nx 2 rfl (eX (o31 ++ r19, i13 + 1) h1 (gE rfl rfl))
   refine nx 5 rfl (fD [12] h2 rfl (fun c15 h2 => ?_) fun c15 h2 => ?_)
   ·refine nx 3 rfl (oC h2 rfl fun hk16 h2 => ?_)
    exact nx 2 rfl (eX _ (oi h2).symm (gE rfl rfl))
   exact nx 2 rfl (eX _ (oi h2).symm (gE rfl rfl))
  exact nx 2 rfl (eXi _ (oi h1).symm (gE rfl rfl))
 ·skip
  intro l_0 r h0
  rw [ref16_mapping] at h0
  refine pbodyA good Tryz.func44 rfl rfl rfl fun w0 => mP (fun v : Bytes => .p (eS v)) ?_
  refine nx 14 rfl (bd h0 fun o43 h1 h0 => ?_)
  refine kE 0 o43 (fun v44 => ⟨[(3, .p (eS v44))], []⟩) ?_ ?_
  ·refine nx 4 rfl (oC h0 rfl fun hk40 h0 => ?_)
   exact nx 3 rfl (mQ (oi h0) rfl (sr))
  refine lG (fun (q45 : Bytes × Int) => ⟨[(0, .p (eL eTExpr l_0)), (3, .p (eS q45.1)), (4, .p (eI q45.2))], []⟩) (fun m (q45 : Bytes × Int) => ref16_mapping_l1 (ref16_Expr n) (ref16_key n) l_0 m q45.1 q45.2) (fun _ => rfl) (([123] : Bytes), 0) h1 (gE rfl rfl) ?_
  rintro m ⟨s19, i20⟩ h1
  replace h1 : ref16_mapping_l1 (ref16_Expr n) (ref16_key n) l_0 (m + 1) s19 i20 = some o43 := h1
  rw [ref16_mapping_l1] at h1
  refine nx 4 rfl (oA h1 rfl rfl fun hk21 h1 => ?_)
  refine nx 1 rfl (oLl (f := eTExpr) rfl rfl ?_)
  refine nx 2 rfl (fD [9] h1 rfl (fun c22 h1 => ?_) fun c22 h1 => ?_)
  ·refine nx 5 rfl (bd h1 fun o46 h2 h1 => ?_)
   refine kN o46 (fun v47 => ⟨[(0, .p (eL eTExpr l_0)), (3, .p (eS v47)), (4, .p (eI i20))], []⟩) ?_ ?_
   ·refine nx 1 rfl (cc' h1 fun hk26 h1 => ?_)
    refine bd h1 fun r27 e28 h1 => cc' h1 fun hk29 h1 => cc' h1 fun hk30 h1 => cc' h1 fun hk31 h1 => cc' h1 fun hk32 h1 => bd h1 fun r33 e34 h1 => cc' h1 fun hk35 h1 => mG (gE (t := ⟨[(0, .p (eL eTExpr l_0)), (3, .p (eS o46)), (4, .p (eI i20))], []⟩) rfl rfl) (mS ⟨1, [15], (fun _ => none), (by2 [(0, .p (eL eTExpr l_0)), (3, .p (eS o46)), (4, .p (eI i20))] [(0, .p (eL eTExpr l_0)), (4, .p (eI i20))]), (fun _ => [])⟩ rfl rfl rfl ⟨rfl, rfl, rfl, trivial⟩ (lt1 ⟨rfl, rfl, trivial⟩) rfl rfl rfl rfl ?_)
    refine ds_pure (fun _ => .p (eS o46)) rfl rfl rfl (all2 rfl (fun _ => rfl)) (lt1 rfl) (stg_no rfl (stg_yes [(3, _)] ⟨.inl rfl, trivial⟩ (fun sl hsl K hK => one_op rfl (ok_move rfl rfl rfl (hsl _ _ rfl) hK)) stg_nil)) (ds_pure (fun _ => .p (eL eTExpr l_0)) rfl rfl rfl (all2 rfl (fun _ => rfl)) (lt1 rfl) (stg_no rfl (stg_yes [(0, _)] ⟨.inl rfl, trivial⟩ (fun sl hsl K hK => one_op rfl (ok_move rfl rfl rfl (hsl _ _ rfl) hK)) stg_nil)) ?_)
    refine ds_pure (fun _ => .p (eI i20)) rfl rfl rfl (all2 rfl (fun _ => rfl)) (lt1 rfl) (stg_no rfl (stg_yes [(4, _)] ⟨.inl rfl, trivial⟩ (fun sl hsl K hK => one_op rfl (ok_move rfl rfl rfl (hsl _ _ rfl) hK)) stg_nil)) (ds_pure (fun _ => .rptr (TExpr.cs (lat l_0 i20))) rfl rfl rfl (all2 rfl (fun _ => rfl)) (lt1 rfl) (stg_no rfl (stg_yes [(17, _), (18, _)] ⟨.inr ⟨1, _, rfl, rfl, rfl⟩, .inr ⟨2, _, rfl, rfl, rfl⟩, trivial⟩ (fun sl hsl K hK => one_op rfl (op_at (f := eTExpr) (l := l_0) TExpr.cs rfl rfl rfl rfl rfl rfl (hsl _ _ rfl) rfl (hsl _ _ rfl) hk26 TExpr.cells_eq (fun _ => rfl) hK)) stg_nil)) ?_)
    refine ds_pure (fun _ => .p (.agg (TExpr.cs (lat l_0 i20)))) rfl rfl rfl (all2 rfl (fun _ => rfl)) (lt1 rfl) (stg_no rfl (stg_yes [(19, _)] ⟨.inr ⟨3, _, rfl, rfl, rfl⟩, trivial⟩ (fun sl hsl K hK => one_op rfl (ok_loadRA rfl rfl rfl rfl rfl (hsl _ _ rfl) rfl hK)) stg_nil)) (ds_pure (fun _ => .p (eS r27)) rfl rfl rfl (all2 rfl (fun _ => rfl)) (lt1 rfl) (stg_no rfl (stg_yes [(20, _)] ⟨.inr ⟨4, _, rfl, rfl, rfl⟩, trivial⟩ (fun sl hsl K hK => one_op rfl (ok_callP (ih_ref16_key_ok (lat l_0 i20) _ e28) rfl rfl rfl (args_cons (hsl _ _ rfl) args_nil) ⟨sr, trivial⟩ Tryz.call87 rfl hK)) stg_nil)) ?_)
    refine ds_pure (fun _ => .p (eS (o46 ++ r27))) rfl rfl rfl (all2 rfl (fun _ => rfl)) (lt1 rfl) (stg_no rfl (stg_yes [(16, _), (21, _)] ⟨.inr ⟨0, _, rfl, rfl, rfl⟩, .inr ⟨5, _, rfl, rfl, rfl⟩, trivial⟩ (fun sl hsl K hK => one_op rfl (ok_concat rfl rfl rfl (hsl _ _ rfl) (hsl _ _ rfl) hk29 hK)) stg_nil)) (ds_pure (fun _ => .p (eS ((o46 ++ r27) ++ ([32, 61, 32] : Bytes)))) rfl rfl rfl (all2 rfl (fun _ => rfl)) (lt1 rfl) (stg_no rfl (stg_yes [(22, _)] ⟨.inr ⟨6, _, rfl, rfl, rfl⟩, trivial⟩ (fun sl hsl K hK => one_op rfl (ok_concat rfl rfl rfl (hsl _ _ rfl) rfl hk30 hK)) stg_nil)) ?_)
    refine ds_pure (fun _ => .p (eL eTExpr l_0)) rfl rfl rfl (all2 rfl (fun _ => rfl)) (lt1 rfl) (stg_no rfl (stg_yes [(0, _)] ⟨.inl rfl, trivial⟩ (fun sl hsl K hK => one_op rfl (ok_move rfl rfl rfl (hsl _ _ rfl) hK)) stg_nil)) (ds_pure (fun _ => .p (eI i20)) rfl rfl rfl (all2 rfl (fun _ => rfl)) (lt1 rfl) (stg_no rfl (stg_yes [(4, _)] ⟨.inl rfl, trivial⟩ (fun sl hsl K hK => one_op rfl (ok_move rfl rfl rfl (hsl _ _ rfl) hK)) stg_nil)) ?_)
    refine ds_pure (fun _ => .p (eI (i20 + 1))) rfl rfl rfl (all2 rfl (fun _ => rfl)) (lt1 rfl) (stg_no rfl (stg_yes [(25, _)] ⟨.inr ⟨9, _, rfl, rfl, rfl⟩, trivial⟩ (fun sl hsl K hK => one_op rfl (ok_ar rfl rfl rfl (hsl _ _ rfl) rfl rfl hk31 hK)) stg_nil)) (ds_pure (fun _ => .rptr (TExpr.cs (lat l_0 (i20 + 1)))) rfl rfl rfl (all2 rfl (fun _ => rfl)) (lt1 rfl) (stg_no rfl (stg_yes [(24, _), (26, _)] ⟨.inr ⟨8, _, rfl, rfl, rfl⟩, .inr ⟨10, _, rfl, rfl, rfl⟩, trivial⟩ (fun sl hsl K hK => one_op rfl (op_at (f := eTExpr) (l := l_0) TExpr.cs rfl rfl rfl rfl rfl rfl (hsl _ _ rfl) rfl (hsl _ _ rfl) hk32 TExpr.cells_eq (fun _ => rfl) hK)) stg_nil)) ?_)
    refine ds_pure (fun _ => .p (.agg (TExpr.cs (lat l_0 (i20 + 1))))) rfl rfl rfl (all2 rfl (fun _ => rfl)) (lt1 rfl) (stg_no rfl (stg_yes [(27, _)] ⟨.inr ⟨11, _, rfl, rfl, rfl⟩, trivial⟩ (fun sl hsl K hK => one_op rfl (ok_loadRA rfl rfl rfl rfl rfl (hsl _ _ rfl) rfl hK)) stg_nil)) (ds_pure (fun _ => .p (eS r33)) rfl rfl rfl (all2 rfl (fun _ => rfl)) (lt1 rfl) (stg_no rfl (stg_yes [(28, _)] ⟨.inr ⟨12, _, rfl, rfl, rfl⟩, trivial⟩ (fun sl hsl K hK => one_op rfl (ok_callP (ih_ref16_Expr_ok (lat l_0 (i20 + 1)) _ e34) rfl rfl rfl (args_cons (hsl _ _ rfl) args_nil) ⟨sr, trivial⟩ Tryz.call11 rfl hK)) stg_nil)) ?_)
    refine ds_pure (fun _ => .p (eS (((o46 ++ r27) ++ ([32, 61, 32] : Bytes)) ++ r33))) rfl rfl rfl (all2 rfl (fun _ => rfl)) (lt1 rfl) (stg_no rfl (stg_yes [(23, _), (29, _)] ⟨.inr ⟨7, _, rfl, rfl, rfl⟩, .inr ⟨13, _, rfl, rfl, rfl⟩, trivial⟩ (fun sl hsl K hK => one_op rfl (ok_concat rfl rfl rfl (hsl _ _ rfl) (hsl _ _ rfl) hk35 hK)) stg_nil)) (ds_imp (fun _ => .p (eS (((o46 ++ r27) ++ ([32, 61, 32] : Bytes)) ++ r33))) [(30, _)] rfl ⟨.inr ⟨14, _, rfl, rfl, rfl⟩, trivial⟩ rfl rfl (fun _ => rfl) (lt1 (fun h => absurd h (by decide))) (fun sl hsl K hK => one_op rfl (ok_assign rfl rfl rfl (hsl _ _ rfl) hK)) ?_)
    refine ds_nil (nx 3 rfl ?_)
    exact oA h1 rfl rfl fun hk36 h1 => nx 2 rfl (eX (((o46 ++ r27) ++ ([32, 61, 32] : Bytes)) ++ r33, i20 + 2) h1 (gE rfl rfl))
   refine nx 5 rfl (fD [13] h2 rfl (fun c23 h2 => ?_) fun c23 h2 => ?_)
   ·refine nx 3 rfl (oC h2 rfl fun hk24 h2 => ?_)
    exact nx 2 rfl (eX _ (oi h2).symm (gE rfl rfl))
   exact nx 2 rfl (eX _ (oi h2).symm (gE rfl rfl))
  exact nx 2 rfl (eXi _ (oi h1).symm (gE rfl rfl))
 ·skip
  intro e_0 r h0
  rw [ref16_loop] at h0
  refine pbodyA good Tryz.func45 rfl rfl rfl fun w0 => mP (fun v : Bytes => .p (eS v)) ?_
  refine nx 10 rfl (bd h0 fun o34 h1 h0 => ?_)
  refine kN o34 (fun v35 => ⟨[(1, .ptr 1 0), (3, .p (eS v35))], [(1, (TExpr.cs e_0).map .p)]⟩) ?_ ?_
  ·refine nx 2 rfl (cc' h0 fun hk5 h0 => ?_)
   refine cc' h0 fun hk6 h0 => cc' h0 fun hk7 h0 => bd h0 fun r8 e9 h0 => cc' h0 fun hk10 h0 => cc' h0 fun hk11 h0 => cc' h0 fun hk12 h0 => bd h0 fun r13 e14 h0 => cc' h0 fun hk15 h0 => mG (gE (t := ⟨[(1, .ptr 1 0), (3, .p (eS o34))], [(1, (TExpr.cs e_0).map .p)]⟩) rfl rfl) (mS ⟨1, [18], (fun _ => none), (by2 [(1, .ptr 1 0), (3, .p (eS o34))] [(1, .ptr 1 0)]), (fun _ => [(1, [.p (eI e_0.fKind), .p (eI e_0.fOp), .p (eS e_0.fName), .p (eS e_0.fKey), .p (eI e_0.fValue.fKind), .p (eI e_0.fValue.fNum), .p (eS e_0.fValue.fStr), .p (eL eTValue e_0.fValue.fItems), .p (eL eS e_0.fValue.fKeys), .p (eL eTExpr e_0.fKids), .p (eI e_0.fAt)])])⟩ rfl rfl rfl ⟨rfl, rfl, trivial⟩ (lt1 ⟨rfl, trivial⟩) rfl rfl rfl rfl ?_)
   refine ds_pure (fun _ => .p (eS o34)) rfl rfl rfl (all2 rfl (fun _ => rfl)) (lt1 rfl) (stg_no rfl (stg_yes [(3, _)] ⟨.inl rfl, trivial⟩ (fun sl hsl K hK => one_op rfl (ok_move rfl rfl rfl (hsl _ _ rfl) hK)) stg_nil)) (ds_pure (fun _ => .ptr 1 2) rfl rfl rfl (all2 rfl (fun _ => rfl)) (lt1 rfl) (stg_no rfl (stg_yes [(1, _)] ⟨.inl rfl, trivial⟩ (fun sl hsl K hK => one_op rfl (ok_fieldAddrP rfl rfl rfl rfl rfl rfl rfl rfl (hsl _ _ rfl) hK)) stg_nil)) ?_)
   refine ds_pure (fun _ => .p (eS e_0.fName)) rfl rfl rfl (all2 rfl (fun _ => rfl)) (lt1 rfl) (stg_no rfl (stg_yes [(14, _)] ⟨.inr ⟨1, _, rfl, rfl, rfl⟩, trivial⟩ (fun sl hsl K hK => one_op rfl (ok_loadP1 rfl rfl rfl rfl rfl (hsl _ _ rfl) rfl rfl hK)) stg_nil)) (ds_pure (fun _ => .p (eS (o34 ++ e_0.fName))) rfl rfl rfl (all2 rfl (fun _ => rfl)) (lt1 rfl) (stg_no rfl (stg_yes [(13, _), (15, _)] ⟨.inr ⟨0, _, rfl, rfl, rfl⟩, .inr ⟨2, _, rfl, rfl, rfl⟩, trivial⟩ (fun sl hsl K hK => one_op rfl (ok_concat rfl rfl rfl (hsl _ _ rfl) (hsl _ _ rfl) hk5 hK)) stg_nil)) ?_)
   refine ds_pure (fun _ => .p (eS ((o34 ++ e_0.fName) ++ ([32, 105, 110, 32] : Bytes)))) rfl rfl rfl (all2 rfl (fun _ => rfl)) (lt1 rfl) (stg_no rfl (stg_yes [(16, _)] ⟨.inr ⟨3, _, rfl, rfl, rfl⟩, trivial⟩ (fun sl hsl K hK => one_op rfl (ok_concat rfl rfl rfl (hsl _ _ rfl) rfl hk6 hK)) stg_nil)) (ds_pure (fun _ => .ptr 1 9) rfl rfl rfl (all2 rfl (fun _ => rfl)) (lt1 rfl) (stg_no rfl (stg_yes [(1, _)] ⟨.inl rfl, trivial⟩ (fun sl hsl K hK => one_op rfl (ok_fieldAddrP rfl rfl rfl rfl rfl rfl rfl rfl (hsl _ _ rfl) hK)) stg_nil)) ?_)
   refine ds_pure (fun _ => .p (eL eTExpr e_0.fKids)) rfl rfl rfl (all2 rfl (fun _ => rfl)) (lt1 rfl) (stg_no rfl (stg_yes [(18, _)] ⟨.inr ⟨5, _, rfl, rfl, rfl⟩, trivial⟩ (fun sl hsl K hK => one_op rfl (ok_loadP1 rfl rfl rfl rfl rfl (hsl _ _ rfl) rfl rfl hK)) stg_nil)) (ds_pure (fun _ => .rptr (TExpr.cs (lat e_0.fKids 0))) rfl rfl rfl (all2 rfl (fun _ => rfl)) (lt1 rfl) (stg_no rfl (stg_yes [(19, _)] ⟨.inr ⟨6, _, rfl, rfl, rfl⟩, trivial⟩ (fun sl hsl K hK => one_op rfl (op_at (f := eTExpr) (l := e_0.fKids) TExpr.cs rfl rfl rfl rfl rfl rfl (hsl _ _ rfl) rfl rfl hk7 TExpr.cells_eq (fun _ => rfl) hK)) stg_nil)) ?_)
   refine ds_pure (fun _ => .p (.agg (TExpr.cs (lat e_0.fKids 0)))) rfl rfl rfl (all2 rfl (fun _ => rfl)) (lt1 rfl) (stg_no rfl (stg_yes [(20, _)] ⟨.inr ⟨7, _, rfl, rfl, rfl⟩, trivial⟩ (fun sl hsl K hK => one_op rfl (ok_loadRA rfl rfl rfl rfl rfl (hsl _ _ rfl) rfl hK)) stg_nil)) (ds_pure (fun _ => .p (eS r8)) rfl rfl rfl (all2 rfl (fun _ => rfl)) (lt1 rfl) (stg_no rfl (stg_yes [(21, _)] ⟨.inr ⟨8, _, rfl, rfl, rfl⟩, trivial⟩ (fun sl hsl K hK => one_op rfl (ok_callP (ih_ref16_Expr_ok (lat e_0.fKids 0) _ e9) rfl rfl rfl (args_cons (hsl _ _ rfl) args_nil) ⟨sr, trivial⟩ Tryz.call11 rfl hK)) stg_nil)) ?_)
   refine ds_pure (fun _ => .p (eS (((o34 ++ e_0.fName) ++ ([32, 105, 110, 32] : Bytes)) ++ r8))) rfl rfl rfl (all2 rfl (fun _ => rfl)) (lt1 rfl) (stg_no rfl (stg_yes [(17, _), (22, _)] ⟨.inr ⟨4, _, rfl, rfl, rfl⟩, .inr ⟨9, _, rfl, rfl, rfl⟩, trivial⟩ (fun sl hsl K hK => one_op rfl (ok_concat rfl rfl rfl (hsl _ _ rfl) (hsl _ _ rfl) hk10 hK)) stg_nil)) (ds_pure (fun _ => .p (eS ((((o34 ++ e_0.fName) ++ ([32, 105, 110, 32] : Bytes)) ++ r8) ++ ([32, 58, 32] : Bytes)))) rfl rfl rfl (all2 rfl (fun _ => rfl)) (lt1 rfl) (stg_no rfl (stg_yes [(23, _)] ⟨.inr ⟨10, _, rfl, rfl, rfl⟩, trivial⟩ (fun sl hsl K hK => one_op rfl (ok_concat rfl rfl rfl (hsl _ _ rfl) rfl hk11 hK)) stg_nil)) ?_)
   refine ds_pure (fun _ => .ptr 1 9) rfl rfl rfl (all2 rfl (fun _ => rfl)) (lt1 rfl) (stg_no rfl (stg_yes [(1, _)] ⟨.inl rfl, trivial⟩ (fun sl hsl K hK => one_op rfl (ok_fieldAddrP rfl rfl rfl rfl rfl rfl rfl rfl (hsl _ _ rfl) hK)) stg_nil)) (ds_pure (fun _ => .p (eL eTExpr e_0.fKids)) rfl rfl rfl (all2 rfl (fun _ => rfl)) (lt1 rfl) (stg_no rfl (stg_yes [(25, _)] ⟨.inr ⟨12, _, rfl, rfl, rfl⟩, trivial⟩ (fun sl hsl K hK => one_op rfl (ok_loadP1 rfl rfl rfl rfl rfl (hsl _ _ rfl) rfl rfl hK)) stg_nil)) ?_)
   refine ds_pure (fun _ => .rptr (TExpr.cs (lat e_0.fKids 1))) rfl rfl rfl (all2 rfl (fun _ => rfl)) (lt1 rfl) (stg_no rfl (stg_yes [(26, _)] ⟨.inr ⟨13, _, rfl, rfl, rfl⟩, trivial⟩ (fun sl hsl K hK => one_op rfl (op_at (f := eTExpr) (l := e_0.fKids) TExpr.cs rfl rfl rfl rfl rfl rfl (hsl _ _ rfl) rfl rfl hk12 TExpr.cells_eq (fun _ => rfl) hK)) stg_nil)) (ds_pure (fun _ => .p (.agg (TExpr.cs (lat e_0.fKids 1)))) rfl rfl rfl (all2 rfl (fun _ => rfl)) (lt1 rfl) (stg_no rfl (stg_yes [(27, _)] ⟨.inr ⟨14, _, rfl, rfl, rfl⟩, trivial⟩ (fun sl hsl K hK => one_op rfl (ok_loadRA rfl rfl rfl rfl rfl (hsl _ _ rfl) rfl hK)) stg_nil)) ?_)
   refine ds_pure (fun _ => .p (eS r13)) rfl rfl rfl (all2 rfl (fun _ => rfl)) (lt1 rfl) (stg_no rfl (stg_yes [(28, _)] ⟨.inr ⟨15, _, rfl, rfl, rfl⟩, trivial⟩ (fun sl hsl K hK => one_op rfl (ok_callP (ih_ref16_Expr_ok (lat e_0.fKids 1) _ e14) rfl rfl rfl (args_cons (hsl _ _ rfl) args_nil) ⟨sr, trivial⟩ Tryz.call11 rfl hK)) stg_nil)) (ds_pure (fun _ => .p (eS (((((o34 ++ e_0.fName) ++ ([32, 105, 110, 32] : Bytes)) ++ r8) ++ ([32, 58, 32] : Bytes)) ++ r13))) rfl rfl rfl (all2 rfl (fun _ => rfl)) (lt1 rfl) (stg_no rfl (stg_yes [(24, _), (29, _)] ⟨.inr ⟨11, _, rfl, rfl, rfl⟩, .inr ⟨16, _, rfl, rfl, rfl⟩, trivial⟩ (fun sl hsl K hK => one_op rfl (ok_concat rfl rfl rfl (hsl _ _ rfl) (hsl _ _ rfl) hk15 hK)) stg_nil)) ?_)
   refine ds_imp (fun _ => .p (eS (((((o34 ++ e_0.fName) ++ ([32, 105, 110, 32] : Bytes)) ++ r8) ++ ([32, 58, 32] : Bytes)) ++ r13))) [(30, _)] rfl ⟨.inr ⟨17, _, rfl, rfl, rfl⟩, trivial⟩ rfl rfl (fun _ => rfl) (lt1 (fun h => absurd h (by decide))) (fun sl hsl K hK => one_op rfl (ok_assign rfl rfl rfl (hsl _ _ rfl) hK)) (ds_nil ?_)
   refine nx 6 rfl (bd h0 fun o36 h1 h0 => ?_)
   refine kN o36 (fun v37 => ⟨[(1, .ptr 1 0), (3, .p (eS v37.1)), (4, .p (eI v37.2))], [(1, (TExpr.cs e_0).map .p)]⟩) ?_ ?_
   ·refine nx 2 rfl (bd h0 fun o38 h1 h0 => ?_)
    refine kN o38 (fun v39 => ⟨[(3, .p (eS v39))], []⟩) ?_ ?_
    ·exact nx 7 rfl (mQ (oi h0) rfl (sr))
    refine nx 4 rfl (oLl (f := eTExpr) rfl rfl ?_)
    refine nx 3 rfl (fD [46] h1 rfl (fun c24 h1 => ?_) fun c24 h1 => ?_)
    ·refine nx 3 rfl (oC h1 rfl fun hk25 h1 => ?_)
     refine nx 3 rfl (oE h1 TExpr.cells_eq rfl rfl (fun _ => rfl) fun hk26 h1 => ?_)
     refine nx 1 rfl (bd h1 fun r27 e28 h1 => ?_)
     refine oK (ih_ref16_Expr_ok (lat e_0.fKids o36.2) _ e28) rfl ⟨sr, trivial⟩ Tryz.call11 rfl (oC h1 rfl fun hk29 h1 => ?_)
     exact nx 2 rfl (eX _ (oi h1).symm (gE rfl rfl))
    exact nx 2 rfl (eX _ (oi h1).symm (gE rfl rfl))
   refine nx 6 rfl (fD [33] h1 rfl (fun c16 h1 => ?_) fun c16 h1 => ?_)
   ·refine nx 4 rfl (oC h1 rfl fun hk17 h1 => ?_)
    refine nx 2 rfl (oE h1 TExpr.cells_eq rfl rfl (fun _ => rfl) fun hk18 h1 => ?_)
    refine nx 1 rfl (bd h1 fun r19 e20 h1 => ?_)
    refine oK (ih_ref16_Expr_ok (lat e_0.fKids 2) _ e20) rfl ⟨sr, trivial⟩ Tryz.call11 rfl (oC h1 rfl fun hk21 h1 => ?_)
    refine nx 2 rfl (mG (gE (t := ⟨[(1, .ptr 1 0), (3, .p (eS (((((((o34 ++ e_0.fName) ++ ([32, 105, 110, 32] : Bytes)) ++ r8) ++ ([32, 58, 32] : Bytes)) ++ r13) ++ ([32, 61, 62, 32] : Bytes)) ++ r19)))], [(1, (TExpr.cs e_0).map .p)]⟩) rfl rfl) ?_)
    exact nx 3 rfl (eX _ (oi h1).symm (gE rfl rfl))
   exact nx 2 rfl (eX _ (oi h1).symm (gE rfl rfl))
  refine nx 4 rfl (oS rfl rfl ?_)
  refine nx 1 rfl (fN [7] h1 rfl (fun c1 h1 => ?_) fun c1 h1 => ?_)
  ·exact nx 2 rfl (eX _ (oi h1).symm (gE rfl rfl))
  refine nx 5 rfl (oC h1 rfl fun hk2 h1 => ?_)
  exact oC h1 rfl fun hk3 h1 => nx 2 rfl (eX _ (oi h1).symm (gE rfl rfl))
 ·skip
  intro e_0 r h0
  rw [ref16_key] at h0
  refine pbodyA good Tryz.func87 rfl rfl rfl fun w0 => mP (fun v : Bytes => .p (eS v)) ?_
  refine nx 12 rfl (fD [5] h0 rfl (fun c1 h0 => ?_) fun c1 h0 => ?_)
  ·refine nx 4 rfl (bd h0 fun r2 e3 h0 => ?_)
   refine oK (ih_ref16_Expr_ok e_0 _ e3) rfl ⟨sr, trivial⟩ Tryz.call11 rfl (nx 3 rfl ?_)
   exact mQ (oi h0) rfl (sr)
  refine nx 4 rfl (bd h0 fun o17 h1 h0 => ?_)
  refine kN o17 (fun v18 => ⟨[(1, .ptr 1 0), (16, .p (eB v18))], [(1, (TExpr.cs e_0).map .p)]⟩) ?_ ?_
  ·refine nx 1 rfl (fB [16] h0 rfl (fun c6 h0 => ?_) fun c6 h0 => ?_)
   ·refine nx 7 rfl (bd h0 fun r7 e8 h0 => ?_)
    refine oK (ref14_Name_ok _ e_0.fValue.fStr _ e8) rfl ⟨sr, trivial⟩ Tryz.call123 rfl (nx 1 rfl ?_)
    refine fB [20] h0 rfl (fun c9 h0 => ?_) fun c9 h0 => ?_
    ·exact nx 9 rfl (mQ (oi h0) rfl (sr))
    refine nx 5 rfl (bd h0 fun r10 e11 h0 => ?_)
    refine oK (ih_ref16_Expr_ok e_0 _ e11) rfl ⟨sr, trivial⟩ Tryz.call11 rfl (nx 3 rfl ?_)
    exact mQ (oi h0) rfl (sr)
   refine nx 5 rfl (bd h0 fun r12 e13 h0 => ?_)
   refine oK (ih_ref16_Expr_ok e_0 _ e13) rfl ⟨sr, trivial⟩ Tryz.call11 rfl (oC h0 rfl fun hk14 h0 => ?_)
   exact oC h0 rfl fun hk15 h0 => nx 3 rfl (mQ (oi h0) rfl (sr))
  refine nx 5 rfl (fD [10, 11] h1 rfl (fun c4 h1 => ?_) fun c4 h1 => ?_)
  ·exact nx 6 rfl (eX _ (oi h1).symm (gE rfl rfl))
  exact nx 6 rfl (eX _ (oi h1).symm (gE rfl rfl))
theorem ref16_Expr_ok (n : Nat) : ∀ (e_0 : TExpr) (r : Bytes), ref16_Expr n e_0 = some r → PCalls Tryz.prog 11 [.agg (TExpr.cs e_0)] (· = .p (eS r)) := (ref16_Expr_all n).1
def ref16_blanks_l1 (depth_0 : Int) : Nat → Bytes → Int → Option Bytes
 | 0, _, _ => none
 | m + 1, s6, i7 =>
 if i7 < depth_0 then
  ck (s6.length + ([32, 32] : Bytes).length ≤ 9223372036854775807) <|
  ck (inR (i7 + 1)) <|
  ref16_blanks_l1 depth_0 m (s6 ++ ([32, 32] : Bytes)) (i7 + 1)
 else
  some s6
def ref16_blanks (n : Nat) (depth_0 : Int) : Option Bytes :=
 (ref16_blanks_l1 depth_0 n ([] : Bytes) 0).bind fun s13 =>
 some s13
set_option maxHeartbeats 4000000 in
theorem ref16_blanks_ok (n : Nat) (depth_0 : Int) (r : Bytes) (h0 : ref16_blanks n depth_0 = some r) : PCalls Tryz.prog 89 [eI depth_0] (· = .p (eS r)) := by
 unfold ref16_blanks at h0
 refine pbodyA good Tryz.func89 rfl rfl rfl fun w0 => mP (fun v : Bytes => .p (eS v)) ?_
 refine nx 14 rfl (bd h0 fun o15 h1 h0 => ?_)
 refine kE 0 o15 (fun v16 => ⟨[(3, .p (eS v16))], []⟩) ?_ ?_
 ·exact nx 7 rfl (mQ (oi h0) rfl (sr))
 refine lG (fun (q17 : Bytes × Int) => ⟨[(0, .p (eI depth_0)), (3, .p (eS q17.1)), (4, .p (eI q17.2))], []⟩) (fun m (q17 : Bytes × Int) => ref16_blanks_l1 depth_0 m q17.1 q17.2) (fun _ => rfl) (([] : Bytes), 0) h1 (gE rfl rfl) ?_
 rintro m ⟨s6, i7⟩ h1
 replace h1 : ref16_blanks_l1 depth_0 (m + 1) s6 i7 = some o15 := h1
 rw [ref16_blanks_l1] at h1
 refine nx 7 rfl (fD [7] h1 rfl (fun c8 h1 => ?_) fun c8 h1 => ?_)
 ·refine nx 6 rfl (oC h1 rfl fun hk9 h1 => ?_)
  refine nx 4 rfl (oA h1 rfl rfl fun hk10 h1 => ?_)
  exact nx 2 rfl (eX (s6 ++ ([32, 32] : Bytes), i7 + 1) h1 (gE rfl rfl))
 exact nx 2 rfl (eXi _ (oi h1).symm (gE rfl rfl))
def ref16_body_l1 (n : Nat) (b_0 : TBody) (depth_1 : Int) : Nat → Bytes → Int → Option Bytes
 | 0, _, _ => none
 | m + 1, s16, i17 =>
 if i17 < (b_0.fAttrs.length : Int) then
  (ref16_blanks n depth_1).bind fun r19 =>
  ck (s16.length + r19.length ≤ 9223372036854775807) <|
  ck ((0 : Int) ≤ i17 ∧ i17 < (b_0.fAttrs.length : Int)) <|
  ck ((s16 ++ r19).length + ((lat b_0.fAttrs i17).fName).length ≤ 9223372036854775807) <|
  ck (((s16 ++ r19) ++ ((lat b_0.fAttrs i17).fName)).length + ([32, 61, 32] : Bytes).length ≤ 9223372036854775807) <|
  ck ((0 : Int) ≤ i17 ∧ i17 < (b_0.fAttrs.length : Int)) <|
  (ref16_Expr n ((lat b_0.fAttrs i17).fExpr)).bind fun r26 =>
  ck ((((s16 ++ r19) ++ ((lat b_0.fAttrs i17).fName)) ++ ([32, 61, 32] : Bytes)).length + r26.length ≤ 9223372036854775807) <|
  ck (((((s16 ++ r19) ++ ((lat b_0.fAttrs i17).fName)) ++ ([32, 61, 32] : Bytes)) ++ r26).length + ([10] : Bytes).length ≤ 9223372036854775807) <|
  ck (inR (i17 + 1)) <|
  ref16_body_l1 n b_0 depth_1 m (((((s16 ++ r19) ++ ((lat b_0.fAttrs i17).fName)) ++ ([32, 61, 32] : Bytes)) ++ r26) ++ ([10] : Bytes)) (i17 + 1)
 else
  some s16
def ref16_body_l3 (n : Nat) (b_0 : TBody) (i79 : Int) : Nat → Bytes → Int → Option Bytes
 | 0, _, _ => none
 | m + 1, s97, k98 =>
 ck ((0 : Int) ≤ i79 ∧ i79 < (b_0.fBlocks.length : Int)) <|
 if k98 < (((lat b_0.fBlocks i79).fLabels).length : Int) then
  ck (s97.length + ([32] : Bytes).length ≤ 9223372036854775807) <|
  ck ((0 : Int) ≤ i79 ∧ i79 < (b_0.fBlocks.length : Int)) <|
  ck ((0 : Int) ≤ k98 ∧ k98 < (((lat b_0.fBlocks i79).fLabels).length : Int)) <|
  (ref02_Quote n (lat ((lat b_0.fBlocks i79).fLabels) k98)).bind fun r104 =>
  ck ((s97 ++ ([32] : Bytes)).length + r104.length ≤ 9223372036854775807) <|
  ck (inR (k98 + 1)) <|
  ref16_body_l3 n b_0 i79 m ((s97 ++ ([32] : Bytes)) ++ r104) (k98 + 1)
 else
  some s97
def ref16_body_l4 (n : Nat) (r_ref16_body : TBody → Int → Option Bytes) (b_0 : TBody) (depth_1 : Int) : Nat → Bytes → Int → Option Bytes
 | 0, _, _ => none
 | m + 1, s78, i79 =>
 if i79 < (b_0.fBlocks.length : Int) then
  (ref16_blanks n depth_1).bind fun r81 =>
  ck (s78.length + r81.length ≤ 9223372036854775807) <|
  ck ((0 : Int) ≤ i79 ∧ i79 < (b_0.fBlocks.length : Int)) <|
  ck ((s78 ++ r81).length + ((lat b_0.fBlocks i79).fType).length ≤ 9223372036854775807) <|
  (ref16_body_l3 n b_0 i79 n ((s78 ++ r81) ++ ((lat b_0.fBlocks i79).fType)) 0).bind fun s110 =>
  ck (s110.length + ([32, 123, 10] : Bytes).length ≤ 9223372036854775807) <|
  ck ((0 : Int) ≤ i79 ∧ i79 < (b_0.fBlocks.length : Int)) <|
  ck (inR (depth_1 + 1)) <|
  (r_ref16_body ((lat b_0.fBlocks i79).fBody) (depth_1 + 1)).bind fun r114 =>
  ck ((s110 ++ ([32, 123, 10] : Bytes)).length + r114.length ≤ 9223372036854775807) <|
  (ref16_blanks n depth_1).bind fun r117 =>
  ck (((s110 ++ ([32, 123, 10] : Bytes)) ++ r114).length + r117.length ≤ 9223372036854775807) <|
  ck ((((s110 ++ ([32, 123, 10] : Bytes)) ++ r114) ++ r117).length + ([125, 10] : Bytes).length ≤ 9223372036854775807) <|
  ck (inR (i79 + 1)) <|
  ref16_body_l4 n r_ref16_body b_0 depth_1 m ((((s110 ++ ([32, 123, 10] : Bytes)) ++ r114) ++ r117) ++ ([125, 10] : Bytes)) (i79 + 1)
 else
  some s78
def ref16_body : Nat → TBody → Int → Option Bytes
 | 0, _, _ => none
 | n + 1, b_0, depth_1 =>
 (ref16_body_l1 n b_0 depth_1 n ([] : Bytes) 0).bind fun s33 =>
 (ref16_body_l4 n (ref16_body n) b_0 depth_1 n s33 0).bind fun s124 =>
 some s124
set_option maxHeartbeats 4000000 in
theorem ref16_body_ok (n : Nat) : ∀ (b_0 : TBody) (depth_1 : Int) (r : Bytes), ref16_body n b_0 depth_1 = some r → PCalls Tryz.prog 48 [.agg (TBody.cs b_0), eI depth_1] (· = .p (eS r)) := by
 induction n with
 | zero => intro b_0 depth_1 r h0; cases h0
 | succ n ih =>
 have ih_ref16_body_ok := ih
 intro b_0 depth_1 r h0
 rw [ref16_body] at h0
 refine pbodyA good Tryz.func48 rfl rfl rfl fun w0 => mP (fun v : Bytes => .p (eS v)) ?_
 refine nx 15 rfl (bd h0 fun o128 h1 h0 => ?_)
 refine kE 0 o128 (fun v129 => ⟨[(1, .p (eI depth_1)), (2, .ptr 2 0), (5, .p (eS v129))], [(2, (TBody.cs b_0).map .p)]⟩) ?_ ?_
 ·refine nx 7 rfl (bd h0 fun o130 h1 h0 => ?_)
  refine kE 2 o130 (fun v131 => ⟨[(5, .p (eS v131))], []⟩) ?_ ?_
  ·exact nx 7 rfl (mQ (oi h0) rfl (sr))
  refine lG (fun (q132 : Bytes × Int) => ⟨[(1, .p (eI depth_1)), (2, .ptr 2 0), (5, .p (eS q132.1)), (7, .p (eI q132.2))], [(2, (TBody.cs b_0).map .p)]⟩) (fun m (q132 : Bytes × Int) => ref16_body_l4 n (ref16_body n) b_0 depth_1 m q132.1 q132.2) (fun _ => rfl) (o128, 0) h1 (gE rfl rfl) ?_
  rintro m ⟨s78, i79⟩ h1
  replace h1 : ref16_body_l4 n (ref16_body n) b_0 depth_1 (m + 1) s78 i79 = some o130 := h1
  rw [ref16_body_l4] at h1
  refine nx 6 rfl (oLl (f := eTBlock) rfl rfl ?_)
  refine nx 2 rfl (fD [41] h1 rfl (fun c80 h1 => ?_) fun c80 h1 => ?_)
  ·refine nx 5 rfl (bd h1 fun r81 e82 h1 => ?_)
   refine cc' h1 fun hk83 h1 => cc' h1 fun hk84 h1 => cc' h1 fun hk85 h1 => mG (gE (t := ⟨[(1, .p (eI depth_1)), (2, .ptr 2 0), (5, .p (eS s78)), (7, .p (eI i79))], [(2, (TBody.cs b_0).map .p)]⟩) rfl rfl) (mS ⟨1, [11], (fun _ => none), (by2 [(1, .p (eI depth_1)), (2, .ptr 2 0), (5, .p (eS s78)), (7, .p (eI i79))] [(1, .p (eI depth_1)), (2, .ptr 2 0), (7, .p (eI i79))]), (fun _ => [(2, [.p (eL eTAttribute b_0.fAttrs), .p (eL eTBlock b_0.fBlocks)])])⟩ rfl rfl rfl ⟨rfl, rfl, rfl, rfl, trivial⟩ (lt1 ⟨rfl, rfl, rfl, trivial⟩) rfl rfl rfl rfl ?_)
   refine ds_pure (fun _ => .p (eS s78)) rfl rfl rfl (all2 rfl (fun _ => rfl)) (lt1 rfl) (stg_no rfl (stg_yes [(5, _)] ⟨.inl rfl, trivial⟩ (fun sl hsl K hK => one_op rfl (ok_move rfl rfl rfl (hsl _ _ rfl) hK)) stg_nil)) (ds_pure (fun _ => .p (eI depth_1)) rfl rfl rfl (all2 rfl (fun _ => rfl)) (lt1 rfl) (stg_no rfl (stg_yes [(1, _)] ⟨.inl rfl, trivial⟩ (fun sl hsl K hK => one_op rfl (ok_move rfl rfl rfl (hsl _ _ rfl) hK)) stg_nil)) ?_)
   refine ds_pure (fun _ => .p (eS r81)) rfl rfl rfl (all2 rfl (fun _ => rfl)) (lt1 rfl) (stg_no rfl (stg_yes [(45, _)] ⟨.inr ⟨1, _, rfl, rfl, rfl⟩, trivial⟩ (fun sl hsl K hK => one_op rfl (ok_callP (ref16_blanks_ok _ depth_1 _ e82) rfl rfl rfl (args_cons (hsl _ _ rfl) args_nil) ⟨sr, trivial⟩ Tryz.call89 rfl hK)) stg_nil)) (ds_pure (fun _ => .p (eS (s78 ++ r81))) rfl rfl rfl (all2 rfl (fun _ => rfl)) (lt1 rfl) (stg_no rfl (stg_yes [(44, _), (46, _)] ⟨.inr ⟨0, _, rfl, rfl, rfl⟩, .inr ⟨2, _, rfl, rfl, rfl⟩, trivial⟩ (fun sl hsl K hK => one_op rfl (ok_concat rfl rfl rfl (hsl _ _ rfl) (hsl _ _ rfl) hk83 hK)) stg_nil)) ?_)
   refine ds_pure (fun _ => .ptr 2 1) rfl rfl rfl (all2 rfl (fun _ => rfl)) (lt1 rfl) (stg_no rfl (stg_yes [(2, _)] ⟨.inl rfl, trivial⟩ (fun sl hsl K hK => one_op rfl (ok_fieldAddrP rfl rfl rfl rfl rfl rfl rfl rfl (hsl _ _ rfl) hK)) stg_nil)) (ds_pure (fun _ => .p (eL eTBlock b_0.fBlocks)) rfl rfl rfl (all2 rfl (fun _ => rfl)) (lt1 rfl) (stg_no rfl (stg_yes [(48, _)] ⟨.inr ⟨4, _, rfl, rfl, rfl⟩, trivial⟩ (fun sl hsl K hK => one_op rfl (ok_loadP1 rfl rfl rfl rfl rfl (hsl _ _ rfl) rfl rfl hK)) stg_nil)) ?_)
   refine ds_pure (fun _ => .p (eI i79)) rfl rfl rfl (all2 rfl (fun _ => rfl)) (lt1 rfl) (stg_no rfl (stg_yes [(7, _)] ⟨.inl rfl, trivial⟩ (fun sl hsl K hK => one_op rfl (ok_move rfl rfl rfl (hsl _ _ rfl) hK)) stg_nil)) (ds_pure (fun _ => .rptr (TBlock.cs (lat b_0.fBlocks i79))) rfl rfl rfl (all2 rfl (fun _ => rfl)) (lt1 rfl) (stg_no rfl (stg_yes [(49, _), (50, _)] ⟨.inr ⟨5, _, rfl, rfl, rfl⟩, .inr ⟨6, _, rfl, rfl, rfl⟩, trivial⟩ (fun sl hsl K hK => one_op rfl (op_at (f := eTBlock) (l := b_0.fBlocks) TBlock.cs rfl rfl rfl rfl rfl rfl (hsl _ _ rfl) rfl (hsl _ _ rfl) hk84 TBlock.cells_eq (fun _ => rfl) hK)) stg_nil)) ?_)
   refine ds_pure (fun _ => .rptr (List.drop 0 (TBlock.cs (lat b_0.fBlocks i79)))) rfl rfl rfl (all2 rfl (fun _ => rfl)) (lt1 rfl) (stg_no rfl (stg_yes [(51, _)] ⟨.inr ⟨7, _, rfl, rfl, rfl⟩, trivial⟩ (fun sl hsl K hK => one_op rfl (ok_fieldAddrR rfl rfl rfl rfl rfl rfl rfl rfl (hsl _ _ rfl) hK)) stg_nil)) (ds_pure (fun _ => .p (eS ((lat b_0.fBlocks i79).fType))) rfl rfl rfl (all2 rfl (fun _ => rfl)) (lt1 rfl) (stg_no rfl (stg_yes [(52, _)] ⟨.inr ⟨8, _, rfl, rfl, rfl⟩, trivial⟩ (fun sl hsl K hK => one_op rfl (ok_loadR1 rfl rfl rfl rfl rfl (hsl _ _ rfl) rfl hK)) stg_nil)) ?_)
   refine ds_pure (fun _ => .p (eS ((s78 ++ r81) ++ ((lat b_0.fBlocks i79).fType)))) rfl rfl rfl (all2 rfl (fun _ => rfl)) (lt1 rfl) (stg_no rfl (stg_yes [(47, _), (53, _)] ⟨.inr ⟨3, _, rfl, rfl, rfl⟩, .inr ⟨9, _, rfl, rfl, rfl⟩, trivial⟩ (fun sl hsl K hK => one_op rfl (ok_concat rfl rfl rfl (hsl _ _ rfl) (hsl _ _ rfl) hk85 hK)) stg_nil)) (ds_imp (fun _ => .p (eS ((s78 ++ r81) ++ ((lat b_0.fBlocks i79).fType)))) [(54, _)] rfl ⟨.inr ⟨10, _, rfl, rfl, rfl⟩, trivial⟩ rfl rfl (fun _ => rfl) (lt1 (fun h => absurd h (by decide))) (fun sl hsl K hK => one_op rfl (ok_assign rfl rfl rfl (hsl _ _ rfl) hK)) ?_)
   refine ds_nil (nx 7 rfl ?_)
   refine bd h1 fun o133 h2 h1 => kE 4 o133 (fun v134 => ⟨[(1, .p (eI depth_1)), (2, .ptr 2 0), (5, .p (eS v134)), (7, .p (eI i79))], [(2, (TBody.cs b_0).map .p)]⟩) ?_ ?_
   ·refine nx 3 rfl (oC h1 rfl fun hk111 h1 => ?_)
    refine nx 3 rfl (oE h1 TBlock.cells_eq rfl rfl (fun _ => rfl) fun hk112 h1 => ?_)
    refine nx 3 rfl (oA h1 rfl rfl fun hk113 h1 => ?_)
    refine bd h1 fun r114 e115 h1 => oK (ih_ref16_body_ok ((lat b_0.fBlocks i79).fBody) (depth_1 + 1) _ e115) rfl ⟨sr, sr, trivial⟩ Tryz.call48 rfl (oC h1 rfl fun hk116 h1 => ?_)
    refine nx 1 rfl (bd h1 fun r117 e118 h1 => ?_)
    refine oK (ref16_blanks_ok _ depth_1 _ e118) rfl ⟨sr, trivial⟩ Tryz.call89 rfl (oC h1 rfl fun hk119 h1 => ?_)
    refine oC h1 rfl fun hk120 h1 => nx 4 rfl (oA h1 rfl rfl fun hk121 h1 => ?_)
    exact nx 2 rfl (eX ((((o133 ++ ([32, 123, 10] : Bytes)) ++ r114) ++ r117) ++ ([125, 10] : Bytes), i79 + 1) h1 (gE rfl rfl))
   refine lG (fun (q135 : Bytes × Int) => ⟨[(1, .p (eI depth_1)), (2, .ptr 2 0), (5, .p (eS q135.1)), (7, .p (eI i79)), (8, .p (eI q135.2))], [(2, (TBody.cs b_0).map .p)]⟩) (fun m (q135 : Bytes × Int) => ref16_body_l3 n b_0 i79 m q135.1 q135.2) (fun _ => rfl) ((s78 ++ r81) ++ ((lat b_0.fBlocks i79).fType), 0) h2 (gE rfl rfl) ?_
   rintro m ⟨s97, k98⟩ h2
   replace h2 : ref16_body_l3 n b_0 i79 (m + 1) s97 k98 = some o133 := h2
   rw [ref16_body_l3] at h2
   refine nx 7 rfl (oE h2 TBlock.cells_eq rfl rfl (fun _ => rfl) fun hk99 h2 => ?_)
   refine nx 2 rfl (oLl (f := eS) rfl rfl ?_)
   refine nx 2 rfl (fD [63] h2 rfl (fun c100 h2 => ?_) fun c100 h2 => ?_)
   ·refine nx 6 rfl (oC h2 rfl fun hk101 h2 => ?_)
    refine nx 3 rfl (oE h2 TBlock.cells_eq rfl rfl (fun _ => rfl) fun hk102 h2 => ?_)
    refine nx 3 rfl (oE h2 (fun _ => rfl) rfl rfl (fun _ => rfl) fun hk103 h2 => ?_)
    refine nx 1 rfl (bd h2 fun r104 e105 h2 => ?_)
    refine oK (ref02_Quote_ok _ (lat ((lat b_0.fBlocks i79).fLabels) k98) _ e105) rfl ⟨sr, trivial⟩ Tryz.call90 rfl (oC h2 rfl fun hk106 h2 => ?_)
    refine nx 4 rfl (oA h2 rfl rfl fun hk107 h2 => ?_)
    exact nx 2 rfl (eX ((s97 ++ ([32] : Bytes)) ++ r104, k98 + 1) h2 (gE rfl rfl))
   exact nx 2 rfl (eXi _ (oi h2).symm (gE rfl rfl))
  exact nx 2 rfl (eXi _ (oi h1).symm (gE rfl rfl))
 refine lG (fun (q136 : Bytes × Int) => ⟨[(1, .p (eI depth_1)), (2, .ptr 2 0), (5, .p (eS q136.1)), (6, .p (eI q136.2))], [(2, (TBody.cs b_0).map .p)]⟩) (fun m (q136 : Bytes × Int) => ref16_body_l1 n b_0 depth_1 m q136.1 q136.2) (fun _ => rfl) (([] : Bytes), 0) h1 (gE rfl rfl) ?_
 rintro m ⟨s16, i17⟩ h1
 replace h1 : ref16_body_l1 n b_0 depth_1 (m + 1) s16 i17 = some o128 := h1
 rw [ref16_body_l1] at h1
 refine nx 6 rfl (oLl (f := eTAttribute) rfl rfl ?_)
 refine nx 2 rfl (fD [13] h1 rfl (fun c18 h1 => ?_) fun c18 h1 => ?_)
 ·refine nx 4 rfl (bd h1 fun r19 e20 h1 => ?_)
  refine cc' h1 fun hk21 h1 => cc' h1 fun hk22 h1 => cc' h1 fun hk23 h1 => cc' h1 fun hk24 h1 => cc' h1 fun hk25 h1 => bd h1 fun r26 e27 h1 => cc' h1 fun hk28 h1 => cc' h1 fun hk29 h1 => mG (gE (t := ⟨[(1, .p (eI depth_1)), (2, .ptr 2 0), (5, .p (eS s16)), (6, .p (eI i17))], [(2, (TBody.cs b_0).map .p)]⟩) rfl rfl) (mS ⟨1, [21], (fun _ => none), (by2 [(1, .p (eI depth_1)), (2, .ptr 2 0), (5, .p (eS s16)), (6, .p (eI i17))] [(1, .p (eI depth_1)), (2, .ptr 2 0), (6, .p (eI i17))]), (fun _ => [(2, [.p (eL eTAttribute b_0.fAttrs), .p (eL eTBlock b_0.fBlocks)])])⟩ rfl rfl rfl ⟨rfl, rfl, rfl, rfl, trivial⟩ (lt1 ⟨rfl, rfl, rfl, trivial⟩) rfl rfl rfl rfl ?_)
  refine ds_pure (fun _ => .p (eS s16)) rfl rfl rfl (all2 rfl (fun _ => rfl)) (lt1 rfl) (stg_no rfl (stg_yes [(5, _)] ⟨.inl rfl, trivial⟩ (fun sl hsl K hK => one_op rfl (ok_move rfl rfl rfl (hsl _ _ rfl) hK)) stg_nil)) (ds_pure (fun _ => .p (eI depth_1)) rfl rfl rfl (all2 rfl (fun _ => rfl)) (lt1 rfl) (stg_no rfl (stg_yes [(1, _)] ⟨.inl rfl, trivial⟩ (fun sl hsl K hK => one_op rfl (ok_move rfl rfl rfl (hsl _ _ rfl) hK)) stg_nil)) ?_)
  refine ds_pure (fun _ => .p (eS r19)) rfl rfl rfl (all2 rfl (fun _ => rfl)) (lt1 rfl) (stg_no rfl (stg_yes [(17, _)] ⟨.inr ⟨1, _, rfl, rfl, rfl⟩, trivial⟩ (fun sl hsl K hK => one_op rfl (ok_callP (ref16_blanks_ok _ depth_1 _ e20) rfl rfl rfl (args_cons (hsl _ _ rfl) args_nil) ⟨sr, trivial⟩ Tryz.call89 rfl hK)) stg_nil)) (ds_pure (fun _ => .p (eS (s16 ++ r19))) rfl rfl rfl (all2 rfl (fun _ => rfl)) (lt1 rfl) (stg_no rfl (stg_yes [(16, _), (18, _)] ⟨.inr ⟨0, _, rfl, rfl, rfl⟩, .inr ⟨2, _, rfl, rfl, rfl⟩, trivial⟩ (fun sl hsl K hK => one_op rfl (ok_concat rfl rfl rfl (hsl _ _ rfl) (hsl _ _ rfl) hk21 hK)) stg_nil)) ?_)
  refine ds_pure (fun _ => .ptr 2 0) rfl rfl rfl (all2 rfl (fun _ => rfl)) (lt1 rfl) (stg_no rfl (stg_yes [(2, _)] ⟨.inl rfl, trivial⟩ (fun sl hsl K hK => one_op rfl (ok_fieldAddrP rfl rfl rfl rfl rfl rfl rfl rfl (hsl _ _ rfl) hK)) stg_nil)) (ds_pure (fun _ => .p (eL eTAttribute b_0.fAttrs)) rfl rfl rfl (all2 rfl (fun _ => rfl)) (lt1 rfl) (stg_no rfl (stg_yes [(20, _)] ⟨.inr ⟨4, _, rfl, rfl, rfl⟩, trivial⟩ (fun sl hsl K hK => one_op rfl (ok_loadP1 rfl rfl rfl rfl rfl (hsl _ _ rfl) rfl rfl hK)) stg_nil)) ?_)
  refine ds_pure (fun _ => .p (eI i17)) rfl rfl rfl (all2 rfl (fun _ => rfl)) (lt1 rfl) (stg_no rfl (stg_yes [(6, _)] ⟨.inl rfl, trivial⟩ (fun sl hsl K hK => one_op rfl (ok_move rfl rfl rfl (hsl _ _ rfl) hK)) stg_nil)) (ds_pure (fun _ => .rptr (TAttribute.cs (lat b_0.fAttrs i17))) rfl rfl rfl (all2 rfl (fun _ => rfl)) (lt1 rfl) (stg_no rfl (stg_yes [(21, _), (22, _)] ⟨.inr ⟨5, _, rfl, rfl, rfl⟩, .inr ⟨6, _, rfl, rfl, rfl⟩, trivial⟩ (fun sl hsl K hK => one_op rfl (op_at (f := eTAttribute) (l := b_0.fAttrs) TAttribute.cs rfl rfl rfl rfl rfl rfl (hsl _ _ rfl) rfl (hsl _ _ rfl) hk22 TAttribute.cells_eq (fun _ => rfl) hK)) stg_nil)) ?_)
  refine ds_pure (fun _ => .rptr (List.drop 0 (TAttribute.cs (lat b_0.fAttrs i17)))) rfl rfl rfl (all2 rfl (fun _ => rfl)) (lt1 rfl) (stg_no rfl (stg_yes [(23, _)] ⟨.inr ⟨7, _, rfl, rfl, rfl⟩, trivial⟩ (fun sl hsl K hK => one_op rfl (ok_fieldAddrR rfl rfl rfl rfl rfl rfl rfl rfl (hsl _ _ rfl) hK)) stg_nil)) (ds_pure (fun _ => .p (eS ((lat b_0.fAttrs i17).fName))) rfl rfl rfl (all2 rfl (fun _ => rfl)) (lt1 rfl) (stg_no rfl (stg_yes [(24, _)] ⟨.inr ⟨8, _, rfl, rfl, rfl⟩, trivial⟩ (fun sl hsl K hK => one_op rfl (ok_loadR1 rfl rfl rfl rfl rfl (hsl _ _ rfl) rfl hK)) stg_nil)) ?_)
  refine ds_pure (fun _ => .p (eS ((s16 ++ r19) ++ ((lat b_0.fAttrs i17).fName)))) rfl rfl rfl (all2 rfl (fun _ => rfl)) (lt1 rfl) (stg_no rfl (stg_yes [(19, _), (25, _)] ⟨.inr ⟨3, _, rfl, rfl, rfl⟩, .inr ⟨9, _, rfl, rfl, rfl⟩, trivial⟩ (fun sl hsl K hK => one_op rfl (ok_concat rfl rfl rfl (hsl _ _ rfl) (hsl _ _ rfl) hk23 hK)) stg_nil)) (ds_pure (fun _ => .p (eS (((s16 ++ r19) ++ ((lat b_0.fAttrs i17).fName)) ++ ([32, 61, 32] : Bytes)))) rfl rfl rfl (all2 rfl (fun _ => rfl)) (lt1 rfl) (stg_no rfl (stg_yes [(26, _)] ⟨.inr ⟨10, _, rfl, rfl, rfl⟩, trivial⟩ (fun sl hsl K hK => one_op rfl (ok_concat rfl rfl rfl (hsl _ _ rfl) rfl hk24 hK)) stg_nil)) ?_)
  refine ds_pure (fun _ => .ptr 2 0) rfl rfl rfl (all2 rfl (fun _ => rfl)) (lt1 rfl) (stg_no rfl (stg_yes [(2, _)] ⟨.inl rfl, trivial⟩ (fun sl hsl K hK => one_op rfl (ok_fieldAddrP rfl rfl rfl rfl rfl rfl rfl rfl (hsl _ _ rfl) hK)) stg_nil)) (ds_pure (fun _ => .p (eL eTAttribute b_0.fAttrs)) rfl rfl rfl (all2 rfl (fun _ => rfl)) (lt1 rfl) (stg_no rfl (stg_yes [(28, _)] ⟨.inr ⟨12, _, rfl, rfl, rfl⟩, trivial⟩ (fun sl hsl K hK => one_op rfl (ok_loadP1 rfl rfl rfl rfl rfl (hsl _ _ rfl) rfl rfl hK)) stg_nil)) ?_)
  refine ds_pure (fun _ => .p (eI i17)) rfl rfl rfl (all2 rfl (fun _ => rfl)) (lt1 rfl) (stg_no rfl (stg_yes [(6, _)] ⟨.inl rfl, trivial⟩ (fun sl hsl K hK => one_op rfl (ok_move rfl rfl rfl (hsl _ _ rfl) hK)) stg_nil)) (ds_pure (fun _ => .rptr (TAttribute.cs (lat b_0.fAttrs i17))) rfl rfl rfl (all2 rfl (fun _ => rfl)) (lt1 rfl) (stg_no rfl (stg_yes [(29, _), (30, _)] ⟨.inr ⟨13, _, rfl, rfl, rfl⟩, .inr ⟨14, _, rfl, rfl, rfl⟩, trivial⟩ (fun sl hsl K hK => one_op rfl (op_at (f := eTAttribute) (l := b_0.fAttrs) TAttribute.cs rfl rfl rfl rfl rfl rfl (hsl _ _ rfl) rfl (hsl _ _ rfl) hk25 TAttribute.cells_eq (fun _ => rfl) hK)) stg_nil)) ?_)
  refine ds_pure (fun _ => .rptr (List.drop 1 (TAttribute.cs (lat b_0.fAttrs i17)))) rfl rfl rfl (all2 rfl (fun _ => rfl)) (lt1 rfl) (stg_no rfl (stg_yes [(31, _)] ⟨.inr ⟨15, _, rfl, rfl, rfl⟩, trivial⟩ (fun sl hsl K hK => one_op rfl (ok_fieldAddrR rfl rfl rfl rfl rfl rfl rfl rfl (hsl _ _ rfl) hK)) stg_nil)) (ds_pure (fun _ => .p (.agg (TExpr.cs ((lat b_0.fAttrs i17).fExpr)))) rfl rfl rfl (all2 rfl (fun _ => rfl)) (lt1 rfl) (stg_no rfl (stg_yes [(32, _)] ⟨.inr ⟨16, _, rfl, rfl, rfl⟩, trivial⟩ (fun sl hsl K hK => one_op rfl (ok_loadRA rfl rfl rfl rfl rfl (hsl _ _ rfl) rfl hK)) stg_nil)) ?_)
  refine ds_pure (fun _ => .p (eS r26)) rfl rfl rfl (all2 rfl (fun _ => rfl)) (lt1 rfl) (stg_no rfl (stg_yes [(33, _)] ⟨.inr ⟨17, _, rfl, rfl, rfl⟩, trivial⟩ (fun sl hsl K hK => one_op rfl (ok_callP (ref16_Expr_ok _ ((lat b_0.fAttrs i17).fExpr) _ e27) rfl rfl rfl (args_cons (hsl _ _ rfl) args_nil) ⟨sr, trivial⟩ Tryz.call11 rfl hK)) stg_nil)) (ds_pure (fun _ => .p (eS ((((s16 ++ r19) ++ ((lat b_0.fAttrs i17).fName)) ++ ([32, 61, 32] : Bytes)) ++ r26))) rfl rfl rfl (all2 rfl (fun _ => rfl)) (lt1 rfl) (stg_no rfl (stg_yes [(27, _), (34, _)] ⟨.inr ⟨11, _, rfl, rfl, rfl⟩, .inr ⟨18, _, rfl, rfl, rfl⟩, trivial⟩ (fun sl hsl K hK => one_op rfl (ok_concat rfl rfl rfl (hsl _ _ rfl) (hsl _ _ rfl) hk28 hK)) stg_nil)) ?_)
  refine ds_pure (fun _ => .p (eS (((((s16 ++ r19) ++ ((lat b_0.fAttrs i17).fName)) ++ ([32, 61, 32] : Bytes)) ++ r26) ++ ([10] : Bytes)))) rfl rfl rfl (all2 rfl (fun _ => rfl)) (lt1 rfl) (stg_no rfl (stg_yes [(35, _)] ⟨.inr ⟨19, _, rfl, rfl, rfl⟩, trivial⟩ (fun sl hsl K hK => one_op rfl (ok_concat rfl rfl rfl (hsl _ _ rfl) rfl hk29 hK)) stg_nil)) (ds_imp (fun _ => .p (eS (((((s16 ++ r19) ++ ((lat b_0.fAttrs i17).fName)) ++ ([32, 61, 32] : Bytes)) ++ r26) ++ ([10] : Bytes)))) [(36, _)] rfl ⟨.inr ⟨20, _, rfl, rfl, rfl⟩, trivial⟩ rfl rfl (fun _ => rfl) (lt1 (fun h => absurd h (by decide))) (fun sl hsl K hK => one_op rfl (ok_assign rfl rfl rfl (hsl _ _ rfl) hK)) ?_)
  refine ds_nil (nx 3 rfl ?_)
  exact oA h1 rfl rfl fun hk30 h1 => nx 2 rfl (eX (((((s16 ++ r19) ++ ((lat b_0.fAttrs i17).fName)) ++ ([32, 61, 32] : Bytes)) ++ r26) ++ ([10] : Bytes), i17 + 1) h1 (gE rfl rfl))
 exact nx 2 rfl (eXi _ (oi h1).symm (gE rfl rfl))
def ref16_Body (n : Nat) (b_0 : TBody) : Option Bytes :=
 (ref16_body n b_0 0).bind fun r1 =>
 some r1
set_option maxHeartbeats 4000000 in
theorem ref16_Body_ok (n : Nat) (b_0 : TBody) (r : Bytes) (h0 : ref16_Body n b_0 = some r) : PCalls Tryz.prog 13 [.agg (TBody.cs b_0)] (· = .p (eS r)) := by
 unfold ref16_Body at h0
 refine pbodyA good Tryz.func13 rfl rfl rfl fun w0 => mP (fun v : Bytes => .p (eS v)) ?_
 refine nx 8 rfl (bd h0 fun r1 e2 h0 => ?_)
 refine oK (ref16_body_ok _ b_0 0 _ e2) rfl ⟨sr, sr, trivial⟩ Tryz.call48 rfl (nx 3 rfl ?_)
 exact mQ (oi h0) rfl (sr)
def law16_FormatTexts (n : Nat) (e_0 : TExpr) (b_1 : TBody) : Option Bool :=
 (
   (law16_one n [e_0]).bind fun r1 =>
   if (!r1) = true then
    some true
   else
    (law16_whole n [b_1]).bind fun r4 =>
    some (!r4)
  : Option Bool).bind fun t6 =>
 if t6 = true then
  (law16_awake n).bind fun r8 =>
  some r8
 else
  (
    (format_Expr n e_0).bind fun r10 =>
    (ref16_Expr n e_0).bind fun r12 =>
    if r10 = r12 then
     (format_Body n b_1).bind fun r15 =>
     (ref16_Body n b_1).bind fun r17 =>
     if r15 = r17 then
      (law16_awake n).bind fun r20 =>
      some r20
     else
      some false
    else
     some false
   : Option Bool).bind fun t22 =>
  some t22
set_option maxHeartbeats 4000000 in
theorem law16_FormatTexts_ok (n : Nat) (e_0 : TExpr) (b_1 : TBody) (r : Bool) (h0 : law16_FormatTexts n e_0 b_1 = some r) : PCalls Tryz.prog 3 [.agg (TExpr.cs e_0), .agg (TBody.cs b_1)] (· = .p (eB r)) := by
 unfold law16_FormatTexts at h0
 refine pbodyA good Tryz.func3 rfl rfl rfl fun w0 => mP (fun v : Bool => .p (eB v)) ?_
 refine nx 8 rfl (bd h0 fun o25 h1 h0 => ?_)
 refine kN o25 (fun v26 => ⟨[(2, .ptr 2 0), (3, .ptr 3 0), (14, .p (eB v26))], [(2, (TExpr.cs e_0).map .p), (3, (TBody.cs b_1).map .p)]⟩) ?_ ?_
 ·refine nx 1 rfl (fB [14] h0 rfl (fun c7 h0 => ?_) fun c7 h0 => ?_)
  ·refine nx 3 rfl (bd h0 fun r8 e9 h0 => ?_)
   refine oK (law16_awake_ok _  _ e9) rfl trivial Tryz.call9 rfl (nx 3 rfl ?_)
   exact mQ (oi h0) rfl (sr)
  refine nx 3 rfl (bd h0 fun o27 h1 h0 => ?_)
  refine kN o27 (fun v28 => ⟨[(4, .p (eB v28))], []⟩) ?_ ?_
  ·exact nx 2 rfl (mQ (oi h0) rfl (sr))
  refine bd h1 fun r10 e11 h1 => bd h1 fun r12 e13 h1 => fD (p := r10 = r12) [] h1 rfl (fun c14 h1 => ?_) fun c14 h1 => ?_
  ·refine bd h1 fun r15 e16 h1 => bd h1 fun r17 e18 h1 => fD (p := r15 = r17) [] h1 rfl (fun c19 h1 => ?_) fun c19 h1 => ?_
   ·refine bd h1 fun r20 e21 h1 => mD [(2, .ptr 2 0), (3, .ptr 3 0)] rfl ⟨rfl, rfl, trivial⟩ rfl (dR 1 rfl ?_)
    refine dq (.p (eS r10)) [16] rfl (fun _ e _ q => one_op rfl (ok_callP (format_Expr_ok _ e_0 _ e11) rfl rfl rfl (args_cons (e _ _ rfl) args_nil) ⟨sr, trivial⟩ Tryz.call10 rfl q)) rfl (dR 1 rfl ?_)
    refine dq (.p (eS r12)) [18] rfl (fun _ e _ q => one_op rfl (ok_callP (ref16_Expr_ok _ e_0 _ e13) rfl rfl rfl (args_cons (e _ _ rfl) args_nil) ⟨sr, trivial⟩ Tryz.call11 rfl q)) rfl (dq (.p (eB (decide (r10 = r12)))) [17,19] rfl (fun _ e _ q => one_op rfl (ok_cmpS rfl rfl rfl (e _ _ rfl) (e _ _ rfl) rfl q)) rfl ?_)
    refine dL (dt c14) rfl (dR 1 rfl ?_)
    refine dq (.p (eS r15)) [21,22] rfl (fun _ e _ q => one_yes (ok_callP (format_Body_ok _ b_1 _ e16) rfl rfl rfl (args_cons (e _ _ rfl) args_nil) ⟨sr, trivial⟩ Tryz.call12 rfl q) rfl rfl (e _ _ rfl) (rfl)) rfl (dR 1 rfl ?_)
    refine dq (.p (eS r17)) [21,24] rfl (fun _ e _ q => one_yes (ok_callP (ref16_Body_ok _ b_1 _ e18) rfl rfl rfl (args_cons (e _ _ rfl) args_nil) ⟨sr, trivial⟩ Tryz.call13 rfl q) rfl rfl (e _ _ rfl) (rfl)) rfl (dq (.p (eB (decide (r15 = r17)))) [21,23,25] rfl (fun _ e _ q => one_yes (ok_cmpS rfl rfl rfl (e _ _ rfl) (e _ _ rfl) rfl q) rfl rfl (e _ _ rfl) (rfl)) rfl ?_)
    refine dL (dt c19) rfl (dR 1 rfl ?_)
    refine dq (.p (eB r20)) [28] rfl (fun _ e _ q => one_yes (ok_callP (law16_awake_ok _  _ e21) rfl rfl rfl args_nil trivial Tryz.call9 rfl q) rfl rfl (e _ _ rfl) (rfl)) rfl (dR 2 rfl ?_)
    refine dE rfl (nx 1 rfl ?_)
    exact eX _ (oi h1).symm (gE rfl rfl)
   refine mD [(2, .ptr 2 0), (3, .ptr 3 0)] rfl ⟨rfl, rfl, trivial⟩ rfl (dR 1 rfl ?_)
   refine dq (.p (eS r10)) [16] rfl (fun _ e _ q => one_op rfl (ok_callP (format_Expr_ok _ e_0 _ e11) rfl rfl rfl (args_cons (e _ _ rfl) args_nil) ⟨sr, trivial⟩ Tryz.call10 rfl q)) rfl (dR 1 rfl ?_)
   refine dq (.p (eS r12)) [18] rfl (fun _ e _ q => one_op rfl (ok_callP (ref16_Expr_ok _ e_0 _ e13) rfl rfl rfl (args_cons (e _ _ rfl) args_nil) ⟨sr, trivial⟩ Tryz.call11 rfl q)) rfl (dq (.p (eB (decide (r10 = r12)))) [17,19] rfl (fun _ e _ q => one_op rfl (ok_cmpS rfl rfl rfl (e _ _ rfl) (e _ _ rfl) rfl q)) rfl ?_)
   refine dL (dt c14) rfl (dR 1 rfl ?_)
   refine dq (.p (eS r15)) [21,22] rfl (fun _ e _ q => one_yes (ok_callP (format_Body_ok _ b_1 _ e16) rfl rfl rfl (args_cons (e _ _ rfl) args_nil) ⟨sr, trivial⟩ Tryz.call12 rfl q) rfl rfl (e _ _ rfl) (rfl)) rfl (dR 1 rfl ?_)
   refine dq (.p (eS r17)) [21,24] rfl (fun _ e _ q => one_yes (ok_callP (ref16_Body_ok _ b_1 _ e18) rfl rfl rfl (args_cons (e _ _ rfl) args_nil) ⟨sr, trivial⟩ Tryz.call13 rfl q) rfl rfl (e _ _ rfl) (rfl)) rfl (dq (.p (eB (decide (r15 = r17)))) [21,23,25] rfl (fun _ e _ q => one_yes (ok_cmpS rfl rfl rfl (e _ _ rfl) (e _ _ rfl) rfl q) rfl rfl (e _ _ rfl) (rfl)) rfl ?_)
   refine dL (df c19) rfl (dR 4 rfl ?_)
   refine dE rfl (nx 1 rfl ?_)
   exact eX _ (oi h1).symm (gE rfl rfl)
  refine mD [(2, .ptr 2 0), (3, .ptr 3 0)] rfl ⟨rfl, rfl, trivial⟩ rfl (dR 1 rfl ?_)
  refine dq (.p (eS r10)) [16] rfl (fun _ e _ q => one_op rfl (ok_callP (format_Expr_ok _ e_0 _ e11) rfl rfl rfl (args_cons (e _ _ rfl) args_nil) ⟨sr, trivial⟩ Tryz.call10 rfl q)) rfl (dR 1 rfl ?_)
  refine dq (.p (eS r12)) [18] rfl (fun _ e _ q => one_op rfl (ok_callP (ref16_Expr_ok _ e_0 _ e13) rfl rfl rfl (args_cons (e _ _ rfl) args_nil) ⟨sr, trivial⟩ Tryz.call11 rfl q)) rfl (dq (.p (eB (decide (r10 = r12)))) [17,19] rfl (fun _ e _ q => one_op rfl (ok_cmpS rfl rfl rfl (e _ _ rfl) (e _ _ rfl) rfl q)) rfl ?_)
  refine dL (df c14) rfl (dR 10 rfl ?_)
  refine dE rfl (nx 1 rfl ?_)
  exact eX _ (oi h1).symm (gE rfl rfl)
 refine nx 2 rfl (mO rfl (op_bslice eTExpr [e_0] rfl rfl rfl rfl rfl rfl rfl rfl rfl rfl rfl rfl rfl (by first | rfl | (simp only [List.map_cons, List.map_nil, TExpr.agg_eq]; done) | (simp only [List.map_cons, List.map_nil, TExpr.agg_eq]; rfl)) ?_))
 refine bd h1 fun r1 e2 h1 => oK (law16_one_ok _ [e_0] _ e2) rfl ⟨sr, trivial⟩ Tryz.call7 rfl (nx 2 rfl ?_)
 refine fB [8, 9] h1 rfl (fun c3 h1 => ?_) fun c3 h1 => ?_
 ·exact nx 6 rfl (eX _ (oi h1).symm (gE rfl rfl))
 refine nx 1 rfl (mO rfl (op_bslice eTBody [b_1] rfl rfl rfl rfl rfl rfl rfl rfl rfl rfl rfl rfl rfl (by first | rfl | (simp only [List.map_cons, List.map_nil, TBody.agg_eq]; done) | (simp only [List.map_cons, List.map_nil, TBody.agg_eq]; rfl)) ?_))
 refine bd h1 fun r4 e5 h1 => oK (law16_whole_ok _ [b_1] _ e5) rfl ⟨sr, trivial⟩ Tryz.call8 rfl (nx 3 rfl ?_)
 exact eX _ (oi h1).symm (gE rfl rfl)
end Go.Ab.R06
