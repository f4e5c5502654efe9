/- Chapter 16. -/
import Derived.Test.YtmdefcidhgbikaaGreatDoorR02r
set_option linter.unusedVariables false
set_option linter.unusedSimpArgs false
set_option linter.unnecessarySimpa false
namespace Go.Ab.R06
open Go.Proofs Go.Ab Go.Ab.RB
attribute [local irreducible] awp rwpL OpOk PCalls OCalls AV.sub M Ghost
def strlit_Escape (s_0 : Bytes) : Option Bytes :=
 (strings_ReplaceAll s_0 ([36, 123] : Bytes) ([36, 36, 123] : Bytes)).bind fun r1 =>
 some r1
set_option maxHeartbeats 4000000 in
theorem strlit_Escape_ok (s_0 : Bytes) (r : Bytes) (h0 : strlit_Escape s_0 = some r) : PCalls Tryz.prog 118 [eS s_0] (· = .p (eS r)) := by
 unfold strlit_Escape at h0
 refine pbodyA good Tryz.func118 rfl rfl rfl fun w0 => mP (fun v : Bytes => .p (eS v)) ?_
 refine nx 7 rfl (bd h0 fun r1 e2 h0 => ?_)
 refine oK (strings_ReplaceAll_ok s_0 ([36, 123] : Bytes) ([36, 36, 123] : Bytes) _ e2) rfl ⟨sr, sr, sr, trivial⟩ Tryz.call157 rfl (nx 3 rfl ?_)
 exact mQ (oi h0) rfl (sr)
def format_quoted (n : Nat) (s_0 : Bytes) : Option Bytes :=
 (strlit_Escape s_0).bind fun r1 =>
 (strlit_Quote n r1).bind fun r3 =>
 ck (inR ((r3.length : Int) - 1)) <|
 ck ((0 : Int) ≤ 1 ∧ 1 ≤ (r3.length : Int) - 1 ∧ (r3.length : Int) - 1 ≤ (r3.length : Int)) <|
 some (sub r3 1 ((r3.length : Int) - 1))
set_option maxHeartbeats 4000000 in
theorem format_quoted_ok (n : Nat) (s_0 : Bytes) (r : Bytes) (h0 : format_quoted n s_0 = some r) : PCalls Tryz.prog 76 [eS s_0] (· = .p (eS r)) := by
 unfold format_quoted at h0
 refine pbodyA good Tryz.func76 rfl rfl rfl fun w0 => mP (fun v : Bytes => .p (eS v)) ?_
 refine nx 7 rfl (bd h0 fun r1 e2 h0 => ?_)
 refine oK (strlit_Escape_ok s_0 _ e2) rfl ⟨sr, trivial⟩ Tryz.call118 rfl (bd h0 fun r3 e4 h0 => ?_)
 refine oK (strlit_Quote_ok _ r1 _ e4) rfl ⟨sr, trivial⟩ Tryz.call88 rfl (nx 6 rfl ?_)
 refine oLs rfl (oA h0 rfl rfl fun hk5 h0 => ?_)
 exact oP h0 rfl rfl rfl fun hk6 h0 => nx 3 rfl (mQ (oi h0) rfl (sr))
def format_literal (n : Nat) (v_0 : TValue) : Option Bytes :=
 if v_0.fKind = 1 then
  if v_0.fNum = 1 then
   some ([116, 114, 117, 101] : Bytes)
  else
   some ([102, 97, 108, 115, 101] : Bytes)
 else
  if v_0.fKind = 2 then
   (number_Format v_0.fNum).bind fun r4 =>
   some r4
  else
   if v_0.fKind = 3 then
    (format_quoted n v_0.fStr).bind fun r7 =>
    ck (([34] : Bytes).length + r7.length ≤ 9223372036854775807) <|
    ck ((([34] : Bytes) ++ r7).length + ([34] : Bytes).length ≤ 9223372036854775807) <|
    some ((([34] : Bytes) ++ r7) ++ ([34] : Bytes))
   else
    some ([110, 117, 108, 108] : Bytes)
set_option maxHeartbeats 4000000 in
theorem format_literal_ok (n : Nat) (v_0 : TValue) (r : Bytes) (h0 : format_literal n v_0 = some r) : PCalls Tryz.prog 30 [.agg (TValue.cs v_0)] (· = .p (eS r)) := by
 unfold format_literal at h0
 refine pbodyA good Tryz.func30 rfl rfl rfl fun w0 => mP (fun v : Bytes => .p (eS v)) ?_
 refine nx 17 rfl (fD [5, 6] h0 rfl (fun c1 h0 => ?_) fun c1 h0 => ?_)
 ·refine nx 8 rfl (fD [9] h0 rfl (fun c2 h0 => ?_) fun c2 h0 => ?_)
  ·exact nx 6 rfl (mQ (oi h0) rfl (sr))
  exact nx 7 rfl (mQ (oi h0) rfl (sr))
 refine nx 6 rfl (fD [10, 11] h0 rfl (fun c3 h0 => ?_) fun c3 h0 => ?_)
 ·refine nx 5 rfl (bd h0 fun r4 e5 h0 => ?_)
  refine oK (number_Format_ok v_0.fNum _ e5) rfl ⟨sr, trivial⟩ Tryz.call75 rfl (nx 3 rfl ?_)
  exact mQ (oi h0) rfl (sr)
 refine nx 6 rfl (fD [15, 16] h0 rfl (fun c6 h0 => ?_) fun c6 h0 => ?_)
 ·refine nx 5 rfl (bd h0 fun r7 e8 h0 => ?_)
  refine oK (format_quoted_ok _ v_0.fStr _ e8) rfl ⟨sr, trivial⟩ Tryz.call76 rfl (oC h0 rfl fun hk9 h0 => ?_)
  exact oC h0 rfl fun hk10 h0 => nx 3 rfl (mQ (oi h0) rfl (sr))
 exact nx 7 rfl (mQ (oi h0) rfl (sr))
def format_plain (e_0 : TExpr) : Option Bool :=
 (
   if e_0.fKind = 1 then
    if e_0.fValue.fKind = 3 then
     some (!decide (e_0.fValue.fStr = ([] : Bytes)))
    else
     some false
   else
    some false
  : Option Bool).bind fun t3 =>
 some t3
set_option maxHeartbeats 4000000 in
theorem format_plain_ok (e_0 : TExpr) (r : Bool) (h0 : format_plain e_0 = some r) : PCalls Tryz.prog 78 [.agg (TExpr.cs e_0)] (· = .p (eB r)) := by
 unfold format_plain at h0
 refine pbodyA good Tryz.func78 rfl rfl rfl fun w0 => mP (fun v : Bool => .p (eB v)) ?_
 refine nx 6 rfl (bd h0 fun o5 h1 h0 => ?_)
 refine kN o5 (fun v6 => ⟨[(2, .p (eB v6))], []⟩) ?_ ?_
 ·exact nx 2 rfl (mQ (oi h0) rfl (sr))
 refine nx 5 rfl (fD [5, 6] h1 rfl (fun c1 h1 => ?_) fun c1 h1 => ?_)
 ·refine nx 6 rfl (fD [10, 11, 12] h1 rfl (fun c2 h1 => ?_) fun c2 h1 => ?_)
  ·refine nx 3 rfl (oS rfl rfl ?_)
   exact nx 3 rfl (eX _ (oi h1).symm (gE rfl rfl))
  exact nx 7 rfl (eX _ (oi h1).symm (gE rfl rfl))
 exact nx 13 rfl (eX _ (oi h1).symm (gE rfl rfl))
def format_bare_l1 (s_0 : Bytes) : Nat → Int → Option (Unit ⊕ Bool)
 | 0, _ => none
 | m + 1, t19 =>
 if t19 < (s_0.length : Int) then
  ck ((0 : Int) ≤ t19 ∧ t19 < (s_0.length : Int)) <|
  (
    ck ((0 : Int) ≤ t19 ∧ t19 < (s_0.length : Int)) <|
    if byt s_0 t19 = 95 then
     some false
    else
     if iOr .u8 (byt s_0 t19) 32 < 97 then
      if t19 = 0 then
       some true
      else
       ck ((0 : Int) ≤ t19 ∧ t19 < (s_0.length : Int)) <|
       if byt s_0 t19 < 48 then
        some true
       else
        ck ((0 : Int) ≤ t19 ∧ t19 < (s_0.length : Int)) <|
        some (decide (57 < byt s_0 t19))
     else
      if 122 < iOr .u8 (byt s_0 t19) 32 then
       if t19 = 0 then
        some true
       else
        ck ((0 : Int) ≤ t19 ∧ t19 < (s_0.length : Int)) <|
        if byt s_0 t19 < 48 then
         some true
        else
         ck ((0 : Int) ≤ t19 ∧ t19 < (s_0.length : Int)) <|
         some (decide (57 < byt s_0 t19))
      else
       some false
   : Option Bool).bind fun t34 =>
  if t34 = true then
   some (.inr false)
  else
   ck (inR (t19 + 1)) <|
   format_bare_l1 s_0 m (t19 + 1)
 else
  some (.inl ())
def format_bare (n : Nat) (s_0 : Bytes) : Option Bool :=
 jn (format_bare_l1 s_0 n 0) fun q46 =>
 (
   if s_0 = ([] : Bytes) then
    some true
   else
    if s_0 = ([110, 117, 108, 108] : Bytes) then
     some true
    else
     if s_0 = ([116, 114, 117, 101] : Bytes) then
      some true
     else
      if s_0 = ([102, 97, 108, 115, 101] : Bytes) then
       some true
      else
       if s_0 = ([102, 111, 114] : Bytes) then
        some true
       else
        if s_0 = ([105, 110] : Bytes) then
         some true
        else
         some (decide (s_0 = ([105, 102] : Bytes)))
  : Option Bool).bind fun t44 =>
 if t44 = true then
  some false
 else
  some (decide ((s_0.length : Int) ≤ 64))
set_option maxHeartbeats 4000000 in
theorem format_bare_ok (n : Nat) (s_0 : Bytes) (r : Bool) (h0 : format_bare n s_0 = some r) : PCalls Tryz.prog 121 [eS s_0] (· = .p (eB r)) := by
 unfold format_bare at h0
 refine pbodyA good Tryz.func121 rfl rfl rfl fun w0 => mP (fun v : Bool => .p (eB v)) ?_
 refine nx 8 rfl (oLs rfl ?_)
 refine nx 3 rfl ?_
 obtain ⟨o49, h1, hL0, hR0⟩ := jn_cut h0
 refine kEx 0 (fun v50 : Unit => o49 = .inl v50) (fun v50 => ⟨[(0, .p (eS s_0))], []⟩) (fun v50 hv => ?_) ?_
 ·have h0 := hL0 _ hv
  refine nx 8 rfl (bd h0 fun o51 h1 h0 => ?_)
  refine kN o51 (fun v52 => ⟨[(0, .p (eS s_0)), (44, .p (eB v52))], []⟩) ?_ ?_
  ·refine nx 1 rfl (fB [44] h0 rfl (fun c45 h0 => ?_) fun c45 h0 => ?_)
   ·exact nx 6 rfl (mQ (oi h0) rfl (sr))
   refine nx 5 rfl (oLs rfl ?_)
   exact nx 4 rfl (mQ (oi h0) rfl (sr))
  refine nx 2 rfl (oS rfl rfl ?_)
  refine nx 2 rfl (fD [44, 45] h1 rfl (fun c38 h1 => ?_) fun c38 h1 => ?_)
  ·exact nx 2 rfl (eX _ (oi h1).symm (gE rfl rfl))
  refine nx 3 rfl (oS rfl rfl ?_)
  refine nx 2 rfl (fD [44, 46] h1 rfl (fun c39 h1 => ?_) fun c39 h1 => ?_)
  ·exact nx 2 rfl (eX _ (oi h1).symm (gE rfl rfl))
  refine nx 3 rfl (oS rfl rfl ?_)
  refine nx 2 rfl (fD [44, 47] h1 rfl (fun c40 h1 => ?_) fun c40 h1 => ?_)
  ·exact nx 2 rfl (eX _ (oi h1).symm (gE rfl rfl))
  refine nx 3 rfl (oS rfl rfl ?_)
  refine nx 2 rfl (fD [44, 48] h1 rfl (fun c41 h1 => ?_) fun c41 h1 => ?_)
  ·exact nx 2 rfl (eX _ (oi h1).symm (gE rfl rfl))
  refine nx 3 rfl (oS rfl rfl ?_)
  refine nx 2 rfl (fD [44, 49] h1 rfl (fun c42 h1 => ?_) fun c42 h1 => ?_)
  ·exact nx 2 rfl (eX _ (oi h1).symm (gE rfl rfl))
  refine nx 3 rfl (oS rfl rfl ?_)
  refine nx 2 rfl (fD [44, 50] h1 rfl (fun c43 h1 => ?_) fun c43 h1 => ?_)
  ·exact nx 2 rfl (eX _ (oi h1).symm (gE rfl rfl))
  refine nx 2 rfl (oS rfl rfl ?_)
  exact nx 2 rfl (eX _ (oi h1).symm (gE rfl rfl))
 refine lG (fun (q53 : Int) => ⟨[(0, .p (eS s_0)), (6, .p (eI (s_0.length : Int))), (7, .p (eI q53))], []⟩) (fun m (q53 : Int) => format_bare_l1 s_0 m q53) (fun _ => rfl) 0 h1 (gE rfl rfl) ?_
 rintro m t19 h1
 replace h1 : format_bare_l1 s_0 (m + 1) t19 = some o49 := h1
 rw [format_bare_l1] at h1
 refine nx 5 rfl (fD [8] h1 rfl (fun c20 h1 => ?_) fun c20 h1 => ?_)
 ·refine nx 13 rfl (oI h1 rfl fun hk21 h1 => ?_)
  refine nx 4 rfl (bd h1 fun o54 h2 h1 => ?_)
  refine kN o54 (fun v55 => ⟨[(0, .p (eS s_0)), (6, .p (eI (s_0.length : Int))), (7, .p (eI t19)), (41, .p (eB v55))], []⟩) ?_ ?_
  ·refine nx 1 rfl (fB [41] h1 rfl (fun c35 h1 => ?_) fun c35 h1 => ?_)
   ·exact nx 6 rfl (mQ (hR0 _ (oi h1).symm) rfl (sr))
   refine nx 3 rfl (oA h1 rfl rfl fun hk36 h1 => ?_)
   exact nx 2 rfl (eX (t19 + 1) h1 (gE rfl rfl))
  refine nx 3 rfl (oI h2 rfl fun hk22 h2 => ?_)
  refine nx 2 rfl (fN [17, 18] h2 rfl (fun c23 h2 => ?_) fun c23 h2 => ?_)
  ·exact nx 24 rfl (eX _ (oi h2).symm (gE rfl rfl))
  refine nx 3 rfl (fD [20, 21] h2 rfl (fun c24 h2 => ?_) fun c24 h2 => ?_)
  ·refine nx 8 rfl (fD [28, 29] h2 rfl (fun c25 h2 => ?_) fun c25 h2 => ?_)
   ·exact nx 13 rfl (eX _ (oi h2).symm (gE rfl rfl))
   refine nx 2 rfl (oI h2 rfl fun hk26 h2 => ?_)
   refine nx 3 rfl (fD [33, 34, 35] h2 rfl (fun c27 h2 => ?_) fun c27 h2 => ?_)
   ·exact nx 7 rfl (eX _ (oi h2).symm (gE rfl rfl))
   refine nx 2 rfl (oI h2 rfl fun hk28 h2 => ?_)
   exact nx 4 rfl (eX _ (oi h2).symm (gE rfl rfl))
  refine nx 5 rfl (fD [23, 24, 25, 26] h2 rfl (fun c29 h2 => ?_) fun c29 h2 => ?_)
  ·refine nx 3 rfl (fD [28, 29] h2 rfl (fun c30 h2 => ?_) fun c30 h2 => ?_)
   ·exact nx 13 rfl (eX _ (oi h2).symm (gE rfl rfl))
   refine nx 2 rfl (oI h2 rfl fun hk31 h2 => ?_)
   refine nx 3 rfl (fD [33, 34, 35] h2 rfl (fun c32 h2 => ?_) fun c32 h2 => ?_)
   ·exact nx 7 rfl (eX _ (oi h2).symm (gE rfl rfl))
   refine nx 2 rfl (oI h2 rfl fun hk33 h2 => ?_)
   exact nx 4 rfl (eX _ (oi h2).symm (gE rfl rfl))
  exact nx 16 rfl (eX _ (oi h2).symm (gE rfl rfl))
 exact nx 2 rfl (eXi _ (oi h1).symm (gE rfl rfl))
def format_level (e_0 : TExpr) : Option Int :=
 if e_0.fKind = 8 then
  some 0
 else
  if e_0.fKind = 6 then
   some 7
  else
   if e_0.fKind = 7 then
    if e_0.fOp = 3 then
     some 1
    else
     if e_0.fOp = 4 then
      some 2
     else
      if e_0.fOp ≤ 6 then
       some 3
      else
       if e_0.fOp ≤ 10 then
        some 4
       else
        if e_0.fOp ≤ 12 then
         some 5
        else
         some 6
   else
    some 8
set_option maxHeartbeats 4000000 in
theorem format_level_ok (e_0 : TExpr) (r : Int) (h0 : format_level e_0 = some r) : PCalls Tryz.prog 36 [.agg (TExpr.cs e_0)] (· = .p (eI r)) := by
 unfold format_level at h0
 refine pbodyA good Tryz.func36 rfl rfl rfl fun w0 => mP (fun v : Int => .p (eI v)) ?_
 refine nx 17 rfl (fD [5, 6] h0 rfl (fun c1 h0 => ?_) fun c1 h0 => ?_)
 ·exact nx 6 rfl (mQ (oi h0) rfl (sr))
 refine nx 6 rfl (fD [7, 8] h0 rfl (fun c2 h0 => ?_) fun c2 h0 => ?_)
 ·exact nx 6 rfl (mQ (oi h0) rfl (sr))
 refine nx 6 rfl (fD [9, 10] h0 rfl (fun c3 h0 => ?_) fun c3 h0 => ?_)
 ·refine nx 10 rfl (fD [11, 14] h0 rfl (fun c4 h0 => ?_) fun c4 h0 => ?_)
  ·exact nx 6 rfl (mQ (oi h0) rfl (sr))
  refine nx 8 rfl (fD [15, 18] h0 rfl (fun c5 h0 => ?_) fun c5 h0 => ?_)
  ·exact nx 6 rfl (mQ (oi h0) rfl (sr))
  refine nx 8 rfl (fD [19, 22] h0 rfl (fun c6 h0 => ?_) fun c6 h0 => ?_)
  ·exact nx 6 rfl (mQ (oi h0) rfl (sr))
  refine nx 8 rfl (mG (gE (t := ⟨[(1, .ptr 1 0), (23, .p (eB (decide (e_0.fOp ≤ 10))))], [(1, (TExpr.cs e_0).map .p)]⟩) rfl rfl) ?_)
  refine fD [23] h0 rfl (fun c7 h0 => ?_) fun c7 h0 => ?_
  ·exact nx 6 rfl (mQ (oi h0) rfl (sr))
  refine nx 8 rfl (fD [27, 30] h0 rfl (fun c8 h0 => ?_) fun c8 h0 => ?_)
  ·exact nx 6 rfl (mQ (oi h0) rfl (sr))
  exact nx 7 rfl (mQ (oi h0) rfl (sr))
 exact nx 7 rfl (mQ (oi h0) rfl (sr))
def format_sign (o_0 : Int) : Option Bytes :=
 (
   if o_0 < 0 then
    some true
   else
    some (decide (16 ≤ o_0))
  : Option Bool).bind fun t2 =>
 if t2 = true then
  some ([] : Bytes)
 else
  ck ((0 : Int) ≤ o_0 ∧ o_0 < 16) <|
  some (lat ([([] : Bytes), ([33] : Bytes), ([45] : Bytes), ([124, 124] : Bytes), ([38, 38] : Bytes), ([61, 61] : Bytes), ([33, 61] : Bytes), ([60] : Bytes), ([60, 61] : Bytes), ([62] : Bytes), ([62, 61] : Bytes), ([43] : Bytes), ([45] : Bytes), ([42] : Bytes), ([47] : Bytes), ([37] : Bytes)] : List Bytes) o_0)
set_option maxHeartbeats 4000000 in
theorem format_sign_ok (o_0 : Int) (r : Bytes) (h0 : format_sign o_0 = some r) : PCalls Tryz.prog 35 [eI o_0] (· = .p (eS r)) := by
 unfold format_sign at h0
 refine pbodyA good Tryz.func35 rfl rfl rfl fun w0 => mP (fun v : Bytes => .p (eS v)) ?_
 refine nx 12 rfl (bd h0 fun o6 h1 h0 => ?_)
 refine kN o6 (fun v7 => ⟨[(0, .p (eI o_0)), (3, .ptr 3 0), (10, .p (eB v7))], [(3, [.p (eS ([] : Bytes)), .p (eS ([33] : Bytes)), .p (eS ([45] : Bytes)), .p (eS ([124, 124] : Bytes)), .p (eS ([38, 38] : Bytes)), .p (eS ([61, 61] : Bytes)), .p (eS ([33, 61] : Bytes)), .p (eS ([60] : Bytes)), .p (eS ([60, 61] : Bytes)), .p (eS ([62] : Bytes)), .p (eS ([62, 61] : Bytes)), .p (eS ([43] : Bytes)), .p (eS ([45] : Bytes)), .p (eS ([42] : Bytes)), .p (eS ([47] : Bytes)), .p (eS ([37] : Bytes))])]⟩) ?_ ?_
 ·refine nx 1 rfl (fB [10] h0 rfl (fun c3 h0 => ?_) fun c3 h0 => ?_)
  ·exact nx 6 rfl (mQ (oi h0) rfl (sr))
  refine nx 5 rfl (cc' h0 fun hk4 h0 => ?_)
  refine mO rfl (ok_indexAddrPA1 rfl rfl rfl rfl rfl rfl rfl rfl rfl hk4 ?_)
  refine mO rfl (ok_loadM (default : Bytes) (f := eS) (l := [([] : Bytes), ([33] : Bytes), ([45] : Bytes), ([124, 124] : Bytes), ([38, 38] : Bytes), ([61, 61] : Bytes), ([33, 61] : Bytes), ([60] : Bytes), ([60, 61] : Bytes), ([62] : Bytes), ([62, 61] : Bytes), ([43] : Bytes), ([45] : Bytes), ([42] : Bytes), ([47] : Bytes), ([37] : Bytes)]) rfl rfl rfl rfl rfl rfl rfl (by have := hk4; simp only [List.length_cons, List.length_nil]; omega) ?_)
  exact nx 3 rfl (mQ (oi h0) rfl (sr))
 refine nx 4 rfl (fD [6, 7] h1 rfl (fun c1 h1 => ?_) fun c1 h1 => ?_)
 ·exact nx 4 rfl (eX _ (oi h1).symm (gE rfl rfl))
 exact nx 4 rfl (eX _ (oi h1).symm (gE rfl rfl))
def format_template_l1 (n : Nat) (r_format_Expr : TExpr → Option Bytes) (l_0 : List TExpr) : Nat → Bool → Int → (List UInt8) → Option (List UInt8)
 | 0, _, _, _ => none
 | m + 1, text38, t39, f40 =>
 if t39 < (l_0.length : Int) then
  (
    ck ((0 : Int) ≤ t39 ∧ t39 < (l_0.length : Int)) <|
    (
      (format_plain (lat l_0 t39)).bind fun r43 =>
      if r43 = true then
       if (!text38) = true then
        some (decide (1 < (l_0.length : Int)))
       else
        some false
      else
       some false
     : Option Bool).bind fun text47 =>
    if (!text47) = true then
     (r_format_Expr (lat l_0 t39)).bind fun r49 =>
     ck (([36, 123] : Bytes).length + r49.length ≤ 9223372036854775807) <|
     ck ((([36, 123] : Bytes) ++ r49).length + ([125] : Bytes).length ≤ 9223372036854775807) <|
     (strings_Builder_WriteString (TBuilder.mk f40) ((([36, 123] : Bytes) ++ r49) ++ ([125] : Bytes))).bind fun r53 =>
     some (text47, r53.2.2.fbuf)
    else
     (
       (
         ck (inR ((l_0.length : Int) - 1)) <|
         if t39 < (l_0.length : Int) - 1 then
          (strings_HasSuffix (((lat l_0 t39).fValue).fStr) ([36] : Bytes)).bind fun r57 =>
          some r57
         else
          some false
        : Option Bool).bind fun t59 =>
       if t59 = true then
        ck (inR (((((lat l_0 t39).fValue).fStr).length : Int) - 1)) <|
        ck ((0 : Int) ≤ 0 ∧ 0 ≤ ((((lat l_0 t39).fValue).fStr).length : Int) - 1 ∧ ((((lat l_0 t39).fValue).fStr).length : Int) - 1 ≤ ((((lat l_0 t39).fValue).fStr).length : Int)) <|
        some (sub (((lat l_0 t39).fValue).fStr) 0 (((((lat l_0 t39).fValue).fStr).length : Int) - 1), ([92, 117, 123, 50, 52, 125] : Bytes))
       else
        some (((lat l_0 t39).fValue).fStr, ([] : Bytes))
      : Option (Bytes × Bytes)).bind fun q84 =>
     (format_quoted n q84.1).bind fun r65 =>
     ck (r65.length + q84.2.length ≤ 9223372036854775807) <|
     (strings_Builder_WriteString (TBuilder.mk f40) (r65 ++ q84.2)).bind fun r68 =>
     some (text47, r68.2.2.fbuf)
   : Option (Bool × (List UInt8))).bind fun q82 =>
  ck (inR (t39 + 1)) <|
  format_template_l1 n r_format_Expr l_0 m q82.1 (t39 + 1) q82.2
 else
  some f40
def format_list_l1 (r_format_Expr : TExpr → Option Bytes) (l_0 : List TExpr) : Nat → (List Bytes) → Int → Option (List Bytes)
 | 0, _, _ => none
 | m + 1, out9, t10 =>
 if t10 < (l_0.length : Int) then
  ck ((0 : Int) ≤ t10 ∧ t10 < (l_0.length : Int)) <|
  (r_format_Expr (lat l_0 t10)).bind fun r13 =>
  ck ((out9.length + [r13].length) * 16 ≤ 140737488355328) <|
  ck (inR (t10 + 1)) <|
  format_list_l1 r_format_Expr l_0 m (out9 ++ [r13]) (t10 + 1)
 else
  some out9
def format_mapping_l1 (r_format_Expr : TExpr → Option Bytes) (r_format_key : TExpr → Option Bytes) (l_0 : List TExpr) : Nat → (List Bytes) → Int → Option (List Bytes)
 | 0, _, _ => none
 | m + 1, out16, i17 =>
 ck (inR (i17 + 1)) <|
 if i17 + 1 < (l_0.length : Int) then
  ck ((0 : Int) ≤ i17 ∧ i17 < (l_0.length : Int)) <|
  (r_format_key (lat l_0 i17)).bind fun r21 =>
  ck (r21.length + ([32, 61, 32] : Bytes).length ≤ 9223372036854775807) <|
  ck (inR (i17 + 1)) <|
  ck ((0 : Int) ≤ i17 + 1 ∧ i17 + 1 < (l_0.length : Int)) <|
  (r_format_Expr (lat l_0 (i17 + 1))).bind fun r26 =>
  ck ((r21 ++ ([32, 61, 32] : Bytes)).length + r26.length ≤ 9223372036854775807) <|
  ck ((out16.length + ([(r21 ++ ([32, 61, 32] : Bytes)) ++ r26]).length) * 16 ≤ 140737488355328) <|
  ck (inR (i17 + 2)) <|
  format_mapping_l1 r_format_Expr r_format_key l_0 m (out16 ++ ([(r21 ++ ([32, 61, 32] : Bytes)) ++ r26])) (i17 + 2)
 else
  some out16
mutual
def format_Expr : Nat → TExpr → Option Bytes
 | 0, _ => none
 | n + 1, e_0 =>
 if e_0.fKind = 1 then
  (format_literal n e_0.fValue).bind fun r2 =>
  some r2
 else
  if e_0.fKind = 2 then
   ((format_template n) e_0.fKids).bind fun r5 =>
   some r5
  else
   if e_0.fKind = 3 then
    some e_0.fName
   else
    if e_0.fKind = 9 then
     ck (e_0.fName.length + ([40] : Bytes).length ≤ 9223372036854775807) <|
     ((format_list n) e_0.fKids).bind fun r10 =>
     ck ((e_0.fName ++ ([40] : Bytes)).length + r10.length ≤ 9223372036854775807) <|
     ck (((e_0.fName ++ ([40] : Bytes)) ++ r10).length + ([41] : Bytes).length ≤ 9223372036854775807) <|
     some (((e_0.fName ++ ([40] : Bytes)) ++ r10) ++ ([41] : Bytes))
    else
     if e_0.fKind = 10 then
      ((format_list n) e_0.fKids).bind fun r15 =>
      ck (([91] : Bytes).length + r15.length ≤ 9223372036854775807) <|
      ck ((([91] : Bytes) ++ r15).length + ([93] : Bytes).length ≤ 9223372036854775807) <|
      some ((([91] : Bytes) ++ r15) ++ ([93] : Bytes))
     else
      if e_0.fKind = 11 then
       ((format_mapping n) e_0.fKids).bind fun r20 =>
       some r20
      else
       (
         if e_0.fKind = 4 then
          some (decide ((e_0.fKids.length : Int) = 1))
         else
          some false
        : Option Bool).bind fun t23 =>
       if t23 = true then
        ck ((0 : Int) ≤ 0 ∧ 0 < (e_0.fKids.length : Int)) <|
        ((format_at n) (lat e_0.fKids 0) 8).bind fun r26 =>
        ck (r26.length + ([46] : Bytes).length ≤ 9223372036854775807) <|
        ck ((r26 ++ ([46] : Bytes)).length + e_0.fName.length ≤ 9223372036854775807) <|
        some ((r26 ++ ([46] : Bytes)) ++ e_0.fName)
       else
        (
          if e_0.fKind = 5 then
           some (decide ((e_0.fKids.length : Int) = 2))
          else
           some false
         : Option Bool).bind fun t31 =>
        if t31 = true then
         ck ((0 : Int) ≤ 0 ∧ 0 < (e_0.fKids.length : Int)) <|
         ((format_at n) (lat e_0.fKids 0) 8).bind fun r34 =>
         ck (r34.length + ([91] : Bytes).length ≤ 9223372036854775807) <|
         ck ((0 : Int) ≤ 1 ∧ 1 < (e_0.fKids.length : Int)) <|
         ((format_Expr n) (lat e_0.fKids 1)).bind fun r38 =>
         ck ((r34 ++ ([91] : Bytes)).length + r38.length ≤ 9223372036854775807) <|
         ck (((r34 ++ ([91] : Bytes)) ++ r38).length + ([93] : Bytes).length ≤ 9223372036854775807) <|
         some (((r34 ++ ([91] : Bytes)) ++ r38) ++ ([93] : Bytes))
        else
         (
           if e_0.fKind = 6 then
            some (decide ((e_0.fKids.length : Int) = 1))
           else
            some false
          : Option Bool).bind fun t43 =>
         if t43 = true then
          (format_sign e_0.fOp).bind fun r45 =>
          ck ((0 : Int) ≤ 0 ∧ 0 < (e_0.fKids.length : Int)) <|
          ((format_at n) (lat e_0.fKids 0) 7).bind fun r48 =>
          ck (r45.length + r48.length ≤ 9223372036854775807) <|
          some (r45 ++ r48)
         else
          (
            if e_0.fKind = 7 then
             some (decide ((e_0.fKids.length : Int) = 2))
            else
             some false
           : Option Bool).bind fun t52 =>
          if t52 = true then
           (format_level e_0).bind fun r54 =>
           ck ((0 : Int) ≤ 0 ∧ 0 < (e_0.fKids.length : Int)) <|
           ((format_at n) (lat e_0.fKids 0) r54).bind fun r57 =>
           ck (r57.length + ([32] : Bytes).length ≤ 9223372036854775807) <|
           (format_sign e_0.fOp).bind fun r60 =>
           ck ((r57 ++ ([32] : Bytes)).length + r60.length ≤ 9223372036854775807) <|
           ck (((r57 ++ ([32] : Bytes)) ++ r60).length + ([32] : Bytes).length ≤ 9223372036854775807) <|
           ck ((0 : Int) ≤ 1 ∧ 1 < (e_0.fKids.length : Int)) <|
           ck (inR (r54 + 1)) <|
           ((format_at n) (lat e_0.fKids 1) (r54 + 1)).bind fun r66 =>
           ck ((((r57 ++ ([32] : Bytes)) ++ r60) ++ ([32] : Bytes)).length + r66.length ≤ 9223372036854775807) <|
           some ((((r57 ++ ([32] : Bytes)) ++ r60) ++ ([32] : Bytes)) ++ r66)
          else
           (
             if e_0.fKind = 8 then
              some (decide ((e_0.fKids.length : Int) = 3))
             else
              some false
            : Option Bool).bind fun t70 =>
           if t70 = true then
            ck ((0 : Int) ≤ 0 ∧ 0 < (e_0.fKids.length : Int)) <|
            ((format_at n) (lat e_0.fKids 0) 1).bind fun r73 =>
            ck (r73.length + ([32, 63, 32] : Bytes).length ≤ 9223372036854775807) <|
            ck ((0 : Int) ≤ 1 ∧ 1 < (e_0.fKids.length : Int)) <|
            ((format_Expr n) (lat e_0.fKids 1)).bind fun r77 =>
            ck ((r73 ++ ([32, 63, 32] : Bytes)).length + r77.length ≤ 9223372036854775807) <|
            ck (((r73 ++ ([32, 63, 32] : Bytes)) ++ r77).length + ([32, 58, 32] : Bytes).length ≤ 9223372036854775807) <|
            ck ((0 : Int) ≤ 2 ∧ 2 < (e_0.fKids.length : Int)) <|
            ((format_Expr n) (lat e_0.fKids 2)).bind fun r82 =>
            ck ((((r73 ++ ([32, 63, 32] : Bytes)) ++ r77) ++ ([32, 58, 32] : Bytes)).length + r82.length ≤ 9223372036854775807) <|
            some ((((r73 ++ ([32, 63, 32] : Bytes)) ++ r77) ++ ([32, 58, 32] : Bytes)) ++ r82)
           else
            (
              if e_0.fKind = 12 then
               some (decide (2 ≤ (e_0.fKids.length : Int)))
              else
               some false
             : Option Bool).bind fun t86 =>
            if t86 = true then
             ((format_loop n) e_0).bind fun r88 =>
             ck (([91] : Bytes).length + r88.length ≤ 9223372036854775807) <|
             ck ((([91] : Bytes) ++ r88).length + ([93] : Bytes).length ≤ 9223372036854775807) <|
             some ((([91] : Bytes) ++ r88) ++ ([93] : Bytes))
            else
             (
               if e_0.fKind = 13 then
                some (decide (3 ≤ (e_0.fKids.length : Int)))
               else
                some false
              : Option Bool).bind fun t93 =>
             if t93 = true then
              ((format_loop n) e_0).bind fun r95 =>
              ck (([123] : Bytes).length + r95.length ≤ 9223372036854775807) <|
              ck ((([123] : Bytes) ++ r95).length + ([125] : Bytes).length ≤ 9223372036854775807) <|
              some ((([123] : Bytes) ++ r95) ++ ([125] : Bytes))
             else
              some ([] : Bytes)
def format_template : Nat → (List TExpr) → Option Bytes
 | 0, _ => none
 | n + 1, l_0 =>
 (strings_Builder_WriteByte (TBuilder.mk []) 34).bind fun r1 =>
 (format_template_l1 n (format_Expr n) l_0 n false 0 r1.2.fbuf).bind fun f76 =>
 (strings_Builder_WriteByte (TBuilder.mk f76) 34).bind fun r77 =>
 (strings_Builder_String (TBuilder.mk r77.2.fbuf)).bind fun r79 =>
 some r79.1
def format_list : Nat → (List TExpr) → Option Bytes
 | 0, _ => none
 | n + 1, l_0 =>
 (format_list_l1 (format_Expr n) l_0 n [] 0).bind fun out19 =>
 (strings_Join out19 ([44, 32] : Bytes)).bind fun r20 =>
 some r20
def format_mapping : Nat → (List TExpr) → Option Bytes
 | 0, _ => none
 | n + 1, l_0 =>
 (format_mapping_l1 (format_Expr n) (format_key n) l_0 n [] 0).bind fun out33 =>
 (strings_Join out33 ([44, 32] : Bytes)).bind fun r34 =>
 ck (([123] : Bytes).length + r34.length ≤ 9223372036854775807) <|
 ck ((([123] : Bytes) ++ r34).length + ([125] : Bytes).length ≤ 9223372036854775807) <|
 some ((([123] : Bytes) ++ r34) ++ ([125] : Bytes))
def format_at : Nat → TExpr → Int → Option Bytes
 | 0, _, _ => none
 | n + 1, e_0, n_1 =>
 (format_level e_0).bind fun r1 =>
 if r1 < n_1 then
  ((format_Expr n) e_0).bind fun r4 =>
  ck (([40] : Bytes).length + r4.length ≤ 9223372036854775807) <|
  ck ((([40] : Bytes) ++ r4).length + ([41] : Bytes).length ≤ 9223372036854775807) <|
  some ((([40] : Bytes) ++ r4) ++ ([41] : Bytes))
 else
  ((format_Expr n) e_0).bind fun r8 =>
  some r8
def format_loop : Nat → TExpr → Option Bytes
 | 0, _ => none
 | n + 1, e_0 =>
 (
   if e_0.fKey = ([] : Bytes) then
    some ([102, 111, 114, 32] : Bytes)
   else
    ck (e_0.fKey.length + ([44, 32] : Bytes).length ≤ 9223372036854775807) <|
    ck (([102, 111, 114, 32] : Bytes).length + (e_0.fKey ++ ([44, 32] : Bytes)).length ≤ 9223372036854775807) <|
    some (([102, 111, 114, 32] : Bytes) ++ (e_0.fKey ++ ([44, 32] : Bytes)))
  : Option Bytes).bind fun s4 =>
 ck (e_0.fName.length + ([32, 105, 110, 32] : Bytes).length ≤ 9223372036854775807) <|
 ck ((0 : Int) ≤ 0 ∧ 0 < (e_0.fKids.length : Int)) <|
 ((format_Expr n) (lat e_0.fKids 0)).bind fun r7 =>
 ck ((e_0.fName ++ ([32, 105, 110, 32] : Bytes)).length + r7.length ≤ 9223372036854775807) <|
 ck (((e_0.fName ++ ([32, 105, 110, 32] : Bytes)) ++ r7).length + ([32, 58, 32] : Bytes).length ≤ 9223372036854775807) <|
 ck ((0 : Int) ≤ 1 ∧ 1 < (e_0.fKids.length : Int)) <|
 ((format_Expr n) (lat e_0.fKids 1)).bind fun r12 =>
 ck ((((e_0.fName ++ ([32, 105, 110, 32] : Bytes)) ++ r7) ++ ([32, 58, 32] : Bytes)).length + r12.length ≤ 9223372036854775807) <|
 ck (s4.length + ((((e_0.fName ++ ([32, 105, 110, 32] : Bytes)) ++ r7) ++ ([32, 58, 32] : Bytes)) ++ r12).length ≤ 9223372036854775807) <|
 ck ((0 : Int) ≤ 2 ∧ 2 ≤ (e_0.fKids.length : Int) ∧ (e_0.fKids.length : Int) ≤ (e_0.fKids.length : Int)) <|
 (
   if e_0.fKind = 13 then
    ck ((0 : Int) ≤ 0 ∧ 0 < ((sub e_0.fKids 2 (e_0.fKids.length : Int)).length : Int)) <|
    ((format_Expr n) (lat (sub e_0.fKids 2 (e_0.fKids.length : Int)) 0)).bind fun r19 =>
    ck (([32, 61, 62, 32] : Bytes).length + r19.length ≤ 9223372036854775807) <|
    ck ((s4 ++ ((((e_0.fName ++ ([32, 105, 110, 32] : Bytes)) ++ r7) ++ ([32, 58, 32] : Bytes)) ++ r12)).length + (([32, 61, 62, 32] : Bytes) ++ r19).length ≤ 9223372036854775807) <|
    ck ((0 : Int) ≤ 1 ∧ 1 ≤ ((sub e_0.fKids 2 (e_0.fKids.length : Int)).length : Int) ∧ ((sub e_0.fKids 2 (e_0.fKids.length : Int)).length : Int) ≤ ((sub e_0.fKids 2 (e_0.fKids.length : Int)).length : Int)) <|
    some ((s4 ++ ((((e_0.fName ++ ([32, 105, 110, 32] : Bytes)) ++ r7) ++ ([32, 58, 32] : Bytes)) ++ r12)) ++ (([32, 61, 62, 32] : Bytes) ++ r19), sub (sub e_0.fKids 2 (e_0.fKids.length : Int)) 1 ((sub e_0.fKids 2 (e_0.fKids.length : Int)).length : Int))
   else
    some (s4 ++ ((((e_0.fName ++ ([32, 105, 110, 32] : Bytes)) ++ r7) ++ ([32, 58, 32] : Bytes)) ++ r12), sub e_0.fKids 2 (e_0.fKids.length : Int))
  : Option (Bytes × (List TExpr))).bind fun q34 =>
 (
   if 0 < (q34.2.length : Int) then
    ck ((0 : Int) ≤ 0 ∧ 0 < (q34.2.length : Int)) <|
    ((format_Expr n) (lat q34.2 0)).bind fun r28 =>
    ck (([32, 105, 102, 32] : Bytes).length + r28.length ≤ 9223372036854775807) <|
    ck (q34.1.length + (([32, 105, 102, 32] : Bytes) ++ r28).length ≤ 9223372036854775807) <|
    some (q34.1 ++ (([32, 105, 102, 32] : Bytes) ++ r28))
   else
    some q34.1
  : Option Bytes).bind fun s32 =>
 some s32
def format_key : Nat → TExpr → Option Bytes
 | 0, _ => none
 | n + 1, e_0 =>
 (
   if e_0.fKind = 1 then
    some (decide (e_0.fValue.fKind = 3))
   else
    some false
  : Option Bool).bind fun t2 =>
 if t2 = true then
  (format_bare n e_0.fValue.fStr).bind fun r4 =>
  if r4 = true then
   some e_0.fValue.fStr
  else
   ((format_Expr n) e_0).bind fun r7 =>
   some r7
 else
  if e_0.fKind = 2 then
   ((format_Expr n) e_0).bind fun r10 =>
   some r10
  else
   ((format_Expr n) e_0).bind fun r12 =>
   ck (([40] : Bytes).length + r12.length ≤ 9223372036854775807) <|
   ck ((([40] : Bytes) ++ r12).length + ([41] : Bytes).length ≤ 9223372036854775807) <|
   some ((([40] : Bytes) ++ r12) ++ ([41] : Bytes))
end
set_option maxHeartbeats 4000000 in
theorem format_Expr_all (n : Nat) : (∀ (e_0 : TExpr) (r : Bytes), format_Expr n e_0 = some r → PCalls Tryz.prog 10 [.agg (TExpr.cs e_0)] (· = .p (eS r))) ∧ (∀ (l_0 : List TExpr) (r : Bytes), format_template n l_0 = some r → PCalls Tryz.prog 31 [eL eTExpr l_0] (· = .p (eS r))) ∧ (∀ (l_0 : List TExpr) (r : Bytes), format_list n l_0 = some r → PCalls Tryz.prog 32 [eL eTExpr l_0] (· = .p (eS r))) ∧ (∀ (l_0 : List TExpr) (r : Bytes), format_mapping n l_0 = some r → PCalls Tryz.prog 33 [eL eTExpr l_0] (· = .p (eS r))) ∧ (∀ (e_0 : TExpr) (n_1 : Int) (r : Bytes), format_at n e_0 n_1 = some r → PCalls Tryz.prog 34 [.agg (TExpr.cs e_0), eI n_1] (· = .p (eS r))) ∧ (∀ (e_0 : TExpr) (r : Bytes), format_loop n e_0 = some r → PCalls Tryz.prog 37 [.agg (TExpr.cs e_0)] (· = .p (eS r))) ∧ (∀ (e_0 : TExpr) (r : Bytes), format_key n e_0 = some r → PCalls Tryz.prog 81 [.agg (TExpr.cs e_0)] (· = .p (eS r))) := by
 induction n with
 | zero => exact ⟨(by intro e_0 r h0; cases h0), (by intro l_0 r h0; cases h0), (by intro l_0 r h0; cases h0), (by intro l_0 r h0; cases h0), (by intro e_0 n_1 r h0; cases h0), (by intro e_0 r h0; cases h0), (by intro e_0 r h0; cases h0)⟩
 | succ n ih =>
 obtain ⟨ih_format_Expr_ok, ih_format_template_ok, ih_format_list_ok, ih_format_mapping_ok, ih_format_at_ok, ih_format_loop_ok, ih_format_key_ok⟩ := ih
 refine ⟨?_, ?_, ?_, ?_, ?_, ?_, ?_⟩
 ·skip
  intro e_0 r h0
  rw [format_Expr] at h0
  refine pbodyA good Tryz.func10 rfl rfl rfl fun w0 => mP (fun v : Bytes => .p (eS v)) ?_
  refine nx 17 rfl (fD [7, 8] h0 rfl (fun c1 h0 => ?_) fun c1 h0 => ?_)
  ·refine nx 5 rfl (bd h0 fun r2 e3 h0 => ?_)
   refine oK (format_literal_ok _ e_0.fValue _ e3) rfl ⟨sr, trivial⟩ Tryz.call30 rfl (nx 3 rfl ?_)
   exact mQ (oi h0) rfl (sr)
  refine nx 6 rfl (fD [12, 13] h0 rfl (fun c4 h0 => ?_) fun c4 h0 => ?_)
  ·refine nx 5 rfl (bd h0 fun r5 e6 h0 => ?_)
   refine oK (ih_format_template_ok e_0.fKids _ e6) rfl ⟨sr, trivial⟩ Tryz.call31 rfl (nx 3 rfl ?_)
   exact mQ (oi h0) rfl (sr)
  refine nx 6 rfl (fD [17, 18] h0 rfl (fun c7 h0 => ?_) fun c7 h0 => ?_)
  ·exact nx 8 rfl (mQ (oi h0) rfl (sr))
  refine nx 6 rfl (fD [21, 22] h0 rfl (fun c8 h0 => ?_) fun c8 h0 => ?_)
  ·refine nx 2 rfl (cc' h0 fun hk9 h0 => ?_)
   refine bd h0 fun r10 e11 h0 => cc' h0 fun hk12 h0 => cc' h0 fun hk13 h0 => mD [(1, .ptr 1 0)] rfl ⟨rfl, trivial⟩ rfl (dR 2 rfl ?_)
   refine dq (.p (eS (e_0.fName ++ ([40] : Bytes)))) [24] rfl (fun _ e _ q => one_op rfl (ok_concat rfl rfl rfl (e _ _ rfl) rfl hk9 q)) rfl (dR 2 rfl ?_)
   refine dq (.p (eS r10)) [27] rfl (fun _ e _ q => one_op rfl (ok_callP (ih_format_list_ok e_0.fKids _ e11) rfl rfl rfl (args_cons (e _ _ rfl) args_nil) ⟨sr, trivial⟩ Tryz.call32 rfl q)) rfl (dq (.p (eS ((e_0.fName ++ ([40] : Bytes)) ++ r10))) [25,28] rfl (fun _ e _ q => one_op rfl (ok_concat rfl rfl rfl (e _ _ rfl) (e _ _ rfl) hk12 q)) rfl ?_)
   refine dq (.p (eS (((e_0.fName ++ ([40] : Bytes)) ++ r10) ++ ([41] : Bytes)))) [29] rfl (fun _ e _ q => one_op rfl (ok_concat rfl rfl rfl (e _ _ rfl) rfl hk13 q)) rfl (dR 1 rfl ?_)
   refine dE rfl (nx 2 rfl ?_)
   exact mQ (oi h0) rfl (sr)
  refine nx 6 rfl (fD [31, 32] h0 rfl (fun c14 h0 => ?_) fun c14 h0 => ?_)
  ·refine nx 5 rfl (bd h0 fun r15 e16 h0 => ?_)
   refine oK (ih_format_list_ok e_0.fKids _ e16) rfl ⟨sr, trivial⟩ Tryz.call32 rfl (oC h0 rfl fun hk17 h0 => ?_)
   exact oC h0 rfl fun hk18 h0 => nx 3 rfl (mQ (oi h0) rfl (sr))
  refine nx 6 rfl (fD [38, 39] h0 rfl (fun c19 h0 => ?_) fun c19 h0 => ?_)
  ·refine nx 5 rfl (bd h0 fun r20 e21 h0 => ?_)
   refine oK (ih_format_mapping_ok e_0.fKids _ e21) rfl ⟨sr, trivial⟩ Tryz.call33 rfl (nx 3 rfl ?_)
   exact mQ (oi h0) rfl (sr)
  refine nx 11 rfl (bd h0 fun o106 h1 h0 => ?_)
  refine kN o106 (fun v107 => ⟨[(1, .ptr 1 0), (3, .p (eL eTExpr e_0.fKids)), (45, .p (eB v107))], [(1, (TExpr.cs e_0).map .p)]⟩) ?_ ?_
  ·refine nx 1 rfl (fB [45] h0 rfl (fun c24 h0 => ?_) fun c24 h0 => ?_)
   ·refine nx 2 rfl (cc' h0 fun hk25 h0 => ?_)
    refine bd h0 fun r26 e27 h0 => cc' h0 fun hk28 h0 => cc' h0 fun hk29 h0 => mD [(1, .ptr 1 0), (3, .p (eL eTExpr e_0.fKids))] rfl ⟨rfl, rfl, trivial⟩ rfl (dR 1 rfl ?_)
    refine dq (.rptr (TExpr.cs (lat e_0.fKids 0))) [54] rfl (fun _ e _ q => one_op rfl (op_at (f := eTExpr) (l := e_0.fKids) TExpr.cs rfl rfl rfl rfl rfl rfl (e _ _ rfl) rfl rfl hk25 TExpr.cells_eq (fun _ => rfl) q)) rfl (dR 1 rfl ?_)
    refine dq (.p (eS r26)) [56] rfl (fun _ e _ q => one_op rfl (ok_callP (ih_format_at_ok (lat e_0.fKids 0) 8 _ e27) rfl rfl rfl (args_cons (e _ _ rfl) (args_cons rfl args_nil)) ⟨sr, sr, trivial⟩ Tryz.call34 rfl q)) rfl (dq (.p (eS (r26 ++ ([46] : Bytes)))) [57] rfl (fun _ e _ q => one_op rfl (ok_concat rfl rfl rfl (e _ _ rfl) rfl hk28 q)) rfl ?_)
    refine dR 2 rfl (dq (.p (eS ((r26 ++ ([46] : Bytes)) ++ e_0.fName))) [58,60] rfl (fun _ e _ q => one_op rfl (ok_concat rfl rfl rfl (e _ _ rfl) (e _ _ rfl) hk29 q)) rfl ?_)
    refine dR 1 rfl (dE rfl ?_)
    exact nx 2 rfl (mQ (oi h0) rfl (sr))
   refine nx 2 rfl (bd h0 fun o108 h1 h0 => ?_)
   refine kN o108 (fun v109 => ⟨[(1, .ptr 1 0), (3, .p (eL eTExpr e_0.fKids)), (62, .p (eB v109))], [(1, (TExpr.cs e_0).map .p)]⟩) ?_ ?_
   ·refine nx 1 rfl (fB [62] h0 rfl (fun c32 h0 => ?_) fun c32 h0 => ?_)
    ·refine nx 2 rfl (cc' h0 fun hk33 h0 => ?_)
     refine bd h0 fun r34 e35 h0 => cc' h0 fun hk36 h0 => cc' h0 fun hk37 h0 => bd h0 fun r38 e39 h0 => cc' h0 fun hk40 h0 => cc' h0 fun hk41 h0 => mD [(3, .p (eL eTExpr e_0.fKids))] rfl ⟨rfl, trivial⟩ rfl (dR 1 rfl ?_)
     refine dq (.rptr (TExpr.cs (lat e_0.fKids 0))) [71] rfl (fun _ e _ q => one_op rfl (op_at (f := eTExpr) (l := e_0.fKids) TExpr.cs rfl rfl rfl rfl rfl rfl (e _ _ rfl) rfl rfl hk33 TExpr.cells_eq (fun _ => rfl) q)) rfl (dR 1 rfl ?_)
     refine dq (.p (eS r34)) [73] rfl (fun _ e _ q => one_op rfl (ok_callP (ih_format_at_ok (lat e_0.fKids 0) 8 _ e35) rfl rfl rfl (args_cons (e _ _ rfl) (args_cons rfl args_nil)) ⟨sr, sr, trivial⟩ Tryz.call34 rfl q)) rfl (dq (.p (eS (r34 ++ ([91] : Bytes)))) [74] rfl (fun _ e _ q => one_op rfl (ok_concat rfl rfl rfl (e _ _ rfl) rfl hk36 q)) rfl ?_)
     refine dR 1 rfl (dq (.rptr (TExpr.cs (lat e_0.fKids 1))) [76] rfl (fun _ e _ q => one_op rfl (op_at (f := eTExpr) (l := e_0.fKids) TExpr.cs rfl rfl rfl rfl rfl rfl (e _ _ rfl) rfl rfl hk37 TExpr.cells_eq (fun _ => rfl) q)) rfl ?_)
     refine dR 1 rfl (dq (.p (eS r38)) [78] rfl (fun _ e _ q => one_op rfl (ok_callP (ih_format_Expr_ok (lat e_0.fKids 1) _ e39) rfl rfl rfl (args_cons (e _ _ rfl) args_nil) ⟨sr, trivial⟩ Tryz.call10 rfl q)) rfl ?_)
     refine dq (.p (eS ((r34 ++ ([91] : Bytes)) ++ r38))) [75,79] rfl (fun _ e _ q => one_op rfl (ok_concat rfl rfl rfl (e _ _ rfl) (e _ _ rfl) hk40 q)) rfl (dq (.p (eS (((r34 ++ ([91] : Bytes)) ++ r38) ++ ([93] : Bytes)))) [80] rfl (fun _ e _ q => one_op rfl (ok_concat rfl rfl rfl (e _ _ rfl) rfl hk41 q)) rfl ?_)
     refine dR 1 rfl (dE rfl ?_)
     exact nx 2 rfl (mQ (oi h0) rfl (sr))
    refine nx 2 rfl (bd h0 fun o110 h1 h0 => ?_)
    refine kN o110 (fun v111 => ⟨[(1, .ptr 1 0), (3, .p (eL eTExpr e_0.fKids)), (82, .p (eB v111))], [(1, (TExpr.cs e_0).map .p)]⟩) ?_ ?_
    ·refine nx 1 rfl (fB [82] h0 rfl (fun c44 h0 => ?_) fun c44 h0 => ?_)
     ·refine nx 2 rfl (bd h0 fun r45 e46 h0 => ?_)
      refine cc' h0 fun hk47 h0 => bd h0 fun r48 e49 h0 => cc' h0 fun hk50 h0 => mD [(1, .ptr 1 0), (3, .p (eL eTExpr e_0.fKids))] rfl ⟨rfl, rfl, trivial⟩ rfl (dR 2 rfl ?_)
      refine dq (.p (eS r45)) [92] rfl (fun _ e _ q => one_op rfl (ok_callP (format_sign_ok e_0.fOp _ e46) rfl rfl rfl (args_cons (e _ _ rfl) args_nil) ⟨sr, trivial⟩ Tryz.call35 rfl q)) rfl (dR 1 rfl ?_)
      refine dq (.rptr (TExpr.cs (lat e_0.fKids 0))) [94] rfl (fun _ e _ q => one_op rfl (op_at (f := eTExpr) (l := e_0.fKids) TExpr.cs rfl rfl rfl rfl rfl rfl (e _ _ rfl) rfl rfl hk47 TExpr.cells_eq (fun _ => rfl) q)) rfl (dR 1 rfl ?_)
      refine dq (.p (eS r48)) [96] rfl (fun _ e _ q => one_op rfl (ok_callP (ih_format_at_ok (lat e_0.fKids 0) 7 _ e49) rfl rfl rfl (args_cons (e _ _ rfl) (args_cons rfl args_nil)) ⟨sr, sr, trivial⟩ Tryz.call34 rfl q)) rfl (dq (.p (eS (r45 ++ r48))) [93,97] rfl (fun _ e _ q => one_op rfl (ok_concat rfl rfl rfl (e _ _ rfl) (e _ _ rfl) hk50 q)) rfl ?_)
      refine dR 1 rfl (dE rfl ?_)
      exact nx 2 rfl (mQ (oi h0) rfl (sr))
     refine nx 2 rfl (bd h0 fun o112 h1 h0 => ?_)
     refine kN o112 (fun v113 => ⟨[(1, .ptr 1 0), (3, .p (eL eTExpr e_0.fKids)), (99, .p (eB v113))], [(1, (TExpr.cs e_0).map .p)]⟩) ?_ ?_
     ·refine nx 1 rfl (fB [99] h0 rfl (fun c53 h0 => ?_) fun c53 h0 => ?_)
      ·refine nx 4 rfl (bd h0 fun r54 e55 h0 => ?_)
       refine oK (format_level_ok e_0 _ e55) rfl ⟨sr, trivial⟩ Tryz.call36 rfl (nx 3 rfl ?_)
       refine cc' h0 fun hk56 h0 => bd h0 fun r57 e58 h0 => cc' h0 fun hk59 h0 => bd h0 fun r60 e61 h0 => cc' h0 fun hk62 h0 => cc' h0 fun hk63 h0 => cc' h0 fun hk64 h0 => cc' h0 fun hk65 h0 => bd h0 fun r66 e67 h0 => cc' h0 fun hk68 h0 => mD [(1, .ptr 1 0), (3, .p (eL eTExpr e_0.fKids)), (4, .p (eI r54))] rfl ⟨rfl, rfl, rfl, trivial⟩ rfl (dR 1 rfl ?_)
       refine dq (.rptr (TExpr.cs (lat e_0.fKids 0))) [110] rfl (fun _ e _ q => one_op rfl (op_at (f := eTExpr) (l := e_0.fKids) TExpr.cs rfl rfl rfl rfl rfl rfl (e _ _ rfl) rfl rfl hk56 TExpr.cells_eq (fun _ => rfl) q)) rfl (dR 2 rfl ?_)
       refine dq (.p (eS r57)) [112,113] rfl (fun _ e _ q => one_op rfl (ok_callP (ih_format_at_ok (lat e_0.fKids 0) r54 _ e58) rfl rfl rfl (args_cons (e _ _ rfl) (args_cons (e _ _ rfl) args_nil)) ⟨sr, sr, trivial⟩ Tryz.call34 rfl q)) rfl (dq (.p (eS (r57 ++ ([32] : Bytes)))) [114] rfl (fun _ e _ q => one_op rfl (ok_concat rfl rfl rfl (e _ _ rfl) rfl hk59 q)) rfl ?_)
       refine dR 2 rfl (dq (.p (eS r60)) [117] rfl (fun _ e _ q => one_op rfl (ok_callP (format_sign_ok e_0.fOp _ e61) rfl rfl rfl (args_cons (e _ _ rfl) args_nil) ⟨sr, trivial⟩ Tryz.call35 rfl q)) rfl ?_)
       refine dq (.p (eS ((r57 ++ ([32] : Bytes)) ++ r60))) [115,118] rfl (fun _ e _ q => one_op rfl (ok_concat rfl rfl rfl (e _ _ rfl) (e _ _ rfl) hk62 q)) rfl (dq (.p (eS (((r57 ++ ([32] : Bytes)) ++ r60) ++ ([32] : Bytes)))) [119] rfl (fun _ e _ q => one_op rfl (ok_concat rfl rfl rfl (e _ _ rfl) rfl hk63 q)) rfl ?_)
       refine dR 1 rfl (dq (.rptr (TExpr.cs (lat e_0.fKids 1))) [121] rfl (fun _ e _ q => one_op rfl (op_at (f := eTExpr) (l := e_0.fKids) TExpr.cs rfl rfl rfl rfl rfl rfl (e _ _ rfl) rfl rfl hk64 TExpr.cells_eq (fun _ => rfl) q)) rfl ?_)
       refine dR 2 rfl (dq (.p (eI (r54 + 1))) [124] rfl (fun _ e _ q => one_op rfl (ok_ar rfl rfl rfl (e _ _ rfl) rfl rfl hk65 q)) rfl ?_)
       refine dq (.p (eS r66)) [123,125] rfl (fun _ e _ q => one_op rfl (ok_callP (ih_format_at_ok (lat e_0.fKids 1) (r54 + 1) _ e67) rfl rfl rfl (args_cons (e _ _ rfl) (args_cons (e _ _ rfl) args_nil)) ⟨sr, sr, trivial⟩ Tryz.call34 rfl q)) rfl (dq (.p (eS ((((r57 ++ ([32] : Bytes)) ++ r60) ++ ([32] : Bytes)) ++ r66))) [120,126] rfl (fun _ e _ q => one_op rfl (ok_concat rfl rfl rfl (e _ _ rfl) (e _ _ rfl) hk68 q)) rfl ?_)
       refine dR 1 rfl (dE rfl ?_)
       exact nx 2 rfl (mQ (oi h0) rfl (sr))
      refine nx 2 rfl (bd h0 fun o114 h1 h0 => ?_)
      refine kN o114 (fun v115 => ⟨[(1, .ptr 1 0), (3, .p (eL eTExpr e_0.fKids)), (128, .p (eB v115))], [(1, (TExpr.cs e_0).map .p)]⟩) ?_ ?_
      ·refine nx 1 rfl (fB [128] h0 rfl (fun c71 h0 => ?_) fun c71 h0 => ?_)
       ·refine nx 2 rfl (cc' h0 fun hk72 h0 => ?_)
        refine bd h0 fun r73 e74 h0 => cc' h0 fun hk75 h0 => cc' h0 fun hk76 h0 => bd h0 fun r77 e78 h0 => cc' h0 fun hk79 h0 => cc' h0 fun hk80 h0 => cc' h0 fun hk81 h0 => bd h0 fun r82 e83 h0 => cc' h0 fun hk84 h0 => mD [(3, .p (eL eTExpr e_0.fKids))] rfl ⟨rfl, trivial⟩ rfl (dR 1 rfl ?_)
        refine dq (.rptr (TExpr.cs (lat e_0.fKids 0))) [137] rfl (fun _ e _ q => one_op rfl (op_at (f := eTExpr) (l := e_0.fKids) TExpr.cs rfl rfl rfl rfl rfl rfl (e _ _ rfl) rfl rfl hk72 TExpr.cells_eq (fun _ => rfl) q)) rfl (dR 1 rfl ?_)
        refine dq (.p (eS r73)) [139] rfl (fun _ e _ q => one_op rfl (ok_callP (ih_format_at_ok (lat e_0.fKids 0) 1 _ e74) rfl rfl rfl (args_cons (e _ _ rfl) (args_cons rfl args_nil)) ⟨sr, sr, trivial⟩ Tryz.call34 rfl q)) rfl (dq (.p (eS (r73 ++ ([32, 63, 32] : Bytes)))) [140] rfl (fun _ e _ q => one_op rfl (ok_concat rfl rfl rfl (e _ _ rfl) rfl hk75 q)) rfl ?_)
        refine dR 1 rfl (dq (.rptr (TExpr.cs (lat e_0.fKids 1))) [142] rfl (fun _ e _ q => one_op rfl (op_at (f := eTExpr) (l := e_0.fKids) TExpr.cs rfl rfl rfl rfl rfl rfl (e _ _ rfl) rfl rfl hk76 TExpr.cells_eq (fun _ => rfl) q)) rfl ?_)
        refine dR 1 rfl (dq (.p (eS r77)) [144] rfl (fun _ e _ q => one_op rfl (ok_callP (ih_format_Expr_ok (lat e_0.fKids 1) _ e78) rfl rfl rfl (args_cons (e _ _ rfl) args_nil) ⟨sr, trivial⟩ Tryz.call10 rfl q)) rfl ?_)
        refine dq (.p (eS ((r73 ++ ([32, 63, 32] : Bytes)) ++ r77))) [141,145] rfl (fun _ e _ q => one_op rfl (ok_concat rfl rfl rfl (e _ _ rfl) (e _ _ rfl) hk79 q)) rfl (dq (.p (eS (((r73 ++ ([32, 63, 32] : Bytes)) ++ r77) ++ ([32, 58, 32] : Bytes)))) [146] rfl (fun _ e _ q => one_op rfl (ok_concat rfl rfl rfl (e _ _ rfl) rfl hk80 q)) rfl ?_)
        refine dR 1 rfl (dq (.rptr (TExpr.cs (lat e_0.fKids 2))) [148] rfl (fun _ e _ q => one_op rfl (op_at (f := eTExpr) (l := e_0.fKids) TExpr.cs rfl rfl rfl rfl rfl rfl (e _ _ rfl) rfl rfl hk81 TExpr.cells_eq (fun _ => rfl) q)) rfl ?_)
        refine dR 1 rfl (dq (.p (eS r82)) [150] rfl (fun _ e _ q => one_op rfl (ok_callP (ih_format_Expr_ok (lat e_0.fKids 2) _ e83) rfl rfl rfl (args_cons (e _ _ rfl) args_nil) ⟨sr, trivial⟩ Tryz.call10 rfl q)) rfl ?_)
        refine dq (.p (eS ((((r73 ++ ([32, 63, 32] : Bytes)) ++ r77) ++ ([32, 58, 32] : Bytes)) ++ r82))) [147,151] rfl (fun _ e _ q => one_op rfl (ok_concat rfl rfl rfl (e _ _ rfl) (e _ _ rfl) hk84 q)) rfl (dR 1 rfl ?_)
        refine dE rfl (nx 2 rfl ?_)
        exact mQ (oi h0) rfl (sr)
       refine nx 2 rfl (bd h0 fun o116 h1 h0 => ?_)
       refine kN o116 (fun v117 => ⟨[(1, .ptr 1 0), (3, .p (eL eTExpr e_0.fKids)), (153, .p (eB v117))], [(1, (TExpr.cs e_0).map .p)]⟩) ?_ ?_
       ·refine nx 1 rfl (fB [153] h0 rfl (fun c87 h0 => ?_) fun c87 h0 => ?_)
        ·refine nx 4 rfl (bd h0 fun r88 e89 h0 => ?_)
         refine oK (ih_format_loop_ok e_0 _ e89) rfl ⟨sr, trivial⟩ Tryz.call37 rfl (oC h0 rfl fun hk90 h0 => ?_)
         exact oC h0 rfl fun hk91 h0 => nx 3 rfl (mQ (oi h0) rfl (sr))
        refine nx 2 rfl (bd h0 fun o118 h1 h0 => ?_)
        refine kN o118 (fun v119 => ⟨[(1, .ptr 1 0), (166, .p (eB v119))], [(1, (TExpr.cs e_0).map .p)]⟩) ?_ ?_
        ·refine nx 1 rfl (fB [166] h0 rfl (fun c94 h0 => ?_) fun c94 h0 => ?_)
         ·refine nx 4 rfl (bd h0 fun r95 e96 h0 => ?_)
          refine oK (ih_format_loop_ok e_0 _ e96) rfl ⟨sr, trivial⟩ Tryz.call37 rfl (oC h0 rfl fun hk97 h0 => ?_)
          exact oC h0 rfl fun hk98 h0 => nx 3 rfl (mQ (oi h0) rfl (sr))
         exact nx 7 rfl (mQ (oi h0) rfl (sr))
        refine nx 5 rfl (fD [169, 170] h1 rfl (fun c92 h1 => ?_) fun c92 h1 => ?_)
        ·refine nx 1 rfl (oLl (f := eTExpr) rfl rfl ?_)
         exact nx 4 rfl (eX _ (oi h1).symm (gE rfl rfl))
        exact nx 6 rfl (eX _ (oi h1).symm (gE rfl rfl))
       refine nx 5 rfl (fD [156, 157] h1 rfl (fun c85 h1 => ?_) fun c85 h1 => ?_)
       ·refine nx 1 rfl (oLl (f := eTExpr) rfl rfl ?_)
        exact nx 4 rfl (eX _ (oi h1).symm (gE rfl rfl))
       exact nx 6 rfl (eX _ (oi h1).symm (gE rfl rfl))
      refine nx 5 rfl (fD [131, 132] h1 rfl (fun c69 h1 => ?_) fun c69 h1 => ?_)
      ·refine nx 1 rfl (oLl (f := eTExpr) rfl rfl ?_)
       exact nx 4 rfl (eX _ (oi h1).symm (gE rfl rfl))
      exact nx 6 rfl (eX _ (oi h1).symm (gE rfl rfl))
     refine nx 5 rfl (fD [102, 103] h1 rfl (fun c51 h1 => ?_) fun c51 h1 => ?_)
     ·refine nx 1 rfl (oLl (f := eTExpr) rfl rfl ?_)
      exact nx 4 rfl (eX _ (oi h1).symm (gE rfl rfl))
     exact nx 6 rfl (eX _ (oi h1).symm (gE rfl rfl))
    refine nx 5 rfl (fD [85, 86] h1 rfl (fun c42 h1 => ?_) fun c42 h1 => ?_)
    ·refine nx 1 rfl (oLl (f := eTExpr) rfl rfl ?_)
     exact nx 4 rfl (eX _ (oi h1).symm (gE rfl rfl))
    exact nx 6 rfl (eX _ (oi h1).symm (gE rfl rfl))
   refine nx 5 rfl (fD [65, 66] h1 rfl (fun c30 h1 => ?_) fun c30 h1 => ?_)
   ·refine nx 1 rfl (oLl (f := eTExpr) rfl rfl ?_)
    exact nx 4 rfl (eX _ (oi h1).symm (gE rfl rfl))
   exact nx 6 rfl (eX _ (oi h1).symm (gE rfl rfl))
  refine nx 5 rfl (fD [48, 49] h1 rfl (fun c22 h1 => ?_) fun c22 h1 => ?_)
  ·refine nx 1 rfl (oLl (f := eTExpr) rfl rfl ?_)
   exact nx 4 rfl (eX _ (oi h1).symm (gE rfl rfl))
  exact nx 6 rfl (eX _ (oi h1).symm (gE rfl rfl))
 ·skip
  intro l_0 r h0
  rw [format_template] at h0
  refine pbodyA good Tryz.func31 rfl rfl rfl fun w0 => mP (fun v : Bytes => .p (eS v)) ?_
  refine nx 6 rfl (mO rfl (ok_allocB rfl rfl rfl rfl rfl rfl rfl ?_))
  refine nx 3 rfl (bd h0 fun r1 e2 h0 => ?_)
  refine mO rfl (op_callV [3] [890000] 101000 101001 (strings_Builder_WriteByte_ok (TBuilder.mk []) 34 _ e2) rfl rfl rfl rfl rfl ⟨sr, sr, trivial⟩ rfl rfl ⟨⟨_, rfl, ⟨sr, AV.sub_nilvec _ _ _, trivial⟩⟩, trivial⟩ rfl rfl rfl rfl rfl rfl rfl rfl Tryz.call77 rfl rfl ?_)
  refine nx 9 rfl (oLl (f := eTExpr) rfl rfl ?_)
  refine nx 3 rfl (bd h0 fun o86 h1 h0 => ?_)
  refine kE 0 o86 (fun v87 => ⟨[(3, .ptr 3 0)], [(3, [.bptr 77 2 3, .vec 103000 1 (5 + 1) (v87.map eU)])]⟩) ?_ ?_
  ·refine nx 3 rfl (bd h0 fun r77 e78 h0 => ?_)
   refine mO rfl (op_callV [3] [103000] 106000 106001 (strings_Builder_WriteByte_ok (TBuilder.mk o86) 34 _ e78) rfl rfl rfl rfl rfl ⟨sr, sr, trivial⟩ rfl rfl ⟨⟨_, rfl, ⟨sr, sr, trivial⟩⟩, trivial⟩ rfl rfl rfl rfl rfl rfl rfl rfl Tryz.call77 rfl rfl ?_)
   refine nx 3 rfl (bd h0 fun r79 e80 h0 => ?_)
   refine mO rfl (op_callV [3] [106000] 107000 107000 (strings_Builder_String_ok (TBuilder.mk r77.2.fbuf) _ e80) rfl rfl rfl rfl rfl ⟨sr, trivial⟩ rfl rfl ⟨⟨_, rfl, ⟨sr, sr, trivial⟩⟩, trivial⟩ rfl rfl rfl rfl rfl rfl rfl rfl Tryz.call47 rfl rfl ?_)
   exact nx 3 rfl (mQ (oi h0) rfl (sr))
  refine lG (fun (q88 : Bool × Int × (List UInt8)) => ⟨[(0, .p (eL eTExpr l_0)), (3, .ptr 3 0), (4, .p (eB q88.1)), (10, .p (eL eTExpr l_0)), (11, .p (eI (l_0.length : Int))), (12, .p (eI q88.2.1))], [(3, [.bptr 77 2 3, .vec 103000 1 (5 + 1) (q88.2.2.map eU)])]⟩) (fun m (q88 : Bool × Int × (List UInt8)) => format_template_l1 n (format_Expr n) l_0 m q88.1 q88.2.1 q88.2.2) (fun _ => rfl) (false, 0, r1.2.fbuf) h1 (ghost_trans (ghost_ren 101000 103000 rfl rfl rfl rfl rfl) (gE rfl rfl)) ?_
  rintro m ⟨text38, t39, f40⟩ h1
  replace h1 : format_template_l1 n (format_Expr n) l_0 (m + 1) text38 t39 f40 = some o86 := h1
  rw [format_template_l1] at h1
  refine nx 5 rfl (fD [13] h1 rfl (fun c41 h1 => ?_) fun c41 h1 => ?_)
  ·refine nx 3 rfl (bd h1 fun o89 h2 h1 => ?_)
   refine kN o89 (fun v90 => ⟨[(0, .p (eL eTExpr l_0)), (3, .ptr 3 0), (4, .p (eB v90.1)), (10, .p (eL eTExpr l_0)), (11, .p (eI (l_0.length : Int))), (12, .p (eI t39))], [(3, [.bptr 77 2 3, .vec 105000 1 (5 + 1) (v90.2.map eU)])]⟩) ?_ ?_
   ·refine nx 2 rfl (oA h1 rfl rfl fun hk72 h1 => ?_)
    exact nx 2 rfl (eX (o89.1, t39 + 1, o89.2) h1 (ghost_trans (ghost_ren 105000 103000 rfl rfl rfl rfl rfl) (gE rfl rfl)))
   refine nx 4 rfl (oE h2 TExpr.cells_eq rfl rfl (fun _ => rfl) fun hk42 h2 => ?_)
   refine nx 6 rfl (bd h2 fun o91 h3 h2 => ?_)
   refine kN o91 (fun v92 => ⟨[(0, .p (eL eTExpr l_0)), (3, .ptr 3 0), (4, .p (eB v92)), (5, .p (eI t39)), (6, .ptr 6 0), (10, .p (eL eTExpr l_0)), (11, .p (eI (l_0.length : Int))), (12, .p (eI t39))], [(3, [.bptr 77 2 3, .vec 103000 1 (5 + 1) (f40.map eU)]), (6, (TExpr.cs (lat l_0 t39)).map .p)]⟩) ?_ ?_
   ·refine nx 7 rfl (fB [29] h2 rfl (fun c48 h2 => ?_) fun c48 h2 => ?_)
    ·refine nx 4 rfl (bd h2 fun r49 e50 h2 => ?_)
     refine oK (ih_format_Expr_ok (lat l_0 t39) _ e50) rfl ⟨sr, trivial⟩ Tryz.call10 rfl (oC h2 rfl fun hk51 h2 => ?_)
     refine oC h2 rfl fun hk52 h2 => bd h2 fun r53 e54 h2 => mO rfl (op_callV [3] [103000] 104000 104001 (strings_Builder_WriteString_ok (TBuilder.mk f40) ((([36, 123] : Bytes) ++ r49) ++ ([125] : Bytes)) _ e54) rfl rfl rfl rfl rfl ⟨sr, sr, trivial⟩ rfl rfl ⟨⟨_, rfl, ⟨sr, sr, trivial⟩⟩, trivial⟩ rfl rfl rfl rfl rfl rfl rfl rfl Tryz.call79 rfl rfl ?_)
     exact nx 2 rfl (eX _ (oi h2).symm (ghost_trans (ghost_ren 104000 105000 rfl rfl rfl rfl rfl) (gE rfl rfl)))
    refine nx 11 rfl (bd h2 fun o93 h3 h2 => ?_)
    refine kN o93 (fun v94 => ⟨[(0, .p (eL eTExpr l_0)), (3, .ptr 3 0), (4, .p (eB o91)), (7, .p (eS v94.1)), (8, .p (eS v94.2)), (10, .p (eL eTExpr l_0)), (11, .p (eI (l_0.length : Int))), (12, .p (eI t39))], [(3, [.bptr 77 2 3, .vec 103000 1 (5 + 1) (f40.map eU)])]⟩) ?_ ?_
    ·refine nx 3 rfl (bd h2 fun r65 e66 h2 => ?_)
     refine oK (format_quoted_ok _ o93.1 _ e66) rfl ⟨sr, trivial⟩ Tryz.call76 rfl (nx 1 rfl ?_)
     refine oC h2 rfl fun hk67 h2 => bd h2 fun r68 e69 h2 => mO rfl (op_callV [3] [103000] 105000 105001 (strings_Builder_WriteString_ok (TBuilder.mk f40) (r65 ++ o93.2) _ e69) rfl rfl rfl rfl rfl ⟨sr, sr, trivial⟩ rfl rfl ⟨⟨_, rfl, ⟨sr, sr, trivial⟩⟩, trivial⟩ rfl rfl rfl rfl rfl rfl rfl rfl Tryz.call79 rfl rfl ?_)
     exact nx 1 rfl (eX _ (oi h2).symm (gE rfl rfl))
    refine nx 1 rfl (bd h3 fun o95 h4 h3 => ?_)
    refine kN o95 (fun v96 => ⟨[(0, .p (eL eTExpr l_0)), (3, .ptr 3 0), (4, .p (eB o91)), (7, .p (eS (((lat l_0 t39).fValue).fStr))), (8, .p (eS ([] : Bytes))), (10, .p (eL eTExpr l_0)), (11, .p (eI (l_0.length : Int))), (12, .p (eI t39)), (46, .p (eB v96))], [(3, [.bptr 77 2 3, .vec 103000 1 (5 + 1) (f40.map eU)])]⟩) ?_ ?_
    ·refine nx 1 rfl (fB [46] h3 rfl (fun c60 h3 => ?_) fun c60 h3 => ?_)
     ·refine nx 4 rfl (oLs rfl ?_)
      exact oA h3 rfl rfl fun hk61 h3 => oP h3 rfl rfl rfl fun hk62 h3 => nx 3 rfl (eX _ (oi h3).symm (gE rfl rfl))
     exact nx 2 rfl (eX _ (oi h3).symm (gE rfl rfl))
    refine nx 3 rfl (oLl (f := eTExpr) rfl rfl ?_)
    refine oA h4 rfl rfl fun hk55 h4 => nx 2 rfl (fD [42, 43] h4 rfl (fun c56 h4 => ?_) fun c56 h4 => ?_)
    ·refine nx 1 rfl (bd h4 fun r57 e58 h4 => ?_)
     refine oK (strings_HasSuffix_ok (((lat l_0 t39).fValue).fStr) ([36] : Bytes) _ e58) rfl ⟨sr, sr, trivial⟩ Tryz.call18 rfl (nx 2 rfl ?_)
     exact eX _ (oi h4).symm (gE rfl rfl)
    exact nx 4 rfl (eX _ (oi h4).symm (gE rfl rfl))
   refine nx 2 rfl (bd h3 fun r43 e44 h3 => ?_)
   refine oK (format_plain_ok (lat l_0 t39) _ e44) rfl ⟨sr, trivial⟩ Tryz.call78 rfl (nx 1 rfl ?_)
   refine fB [18, 19] h3 rfl (fun c45 h3 => ?_) fun c45 h3 => ?_
   ·refine nx 4 rfl (fB [21, 22, 23] h3 rfl (fun c46 h3 => ?_) fun c46 h3 => ?_)
    ·refine nx 1 rfl (oLl (f := eTExpr) rfl rfl ?_)
     exact nx 4 rfl (eX _ (oi h3).symm (gE rfl rfl))
    exact nx 6 rfl (eX _ (oi h3).symm (gE rfl rfl))
   exact nx 10 rfl (eX _ (oi h3).symm (gE rfl rfl))
  exact nx 2 rfl (eXi _ (oi h1).symm (gE rfl rfl))
 ·skip
  intro l_0 r h0
  rw [format_list] at h0
  refine pbodyA good Tryz.func32 rfl rfl rfl fun w0 => mP (fun v : Bytes => .p (eS v)) ?_
  refine nx 12 rfl (oLl (f := eTExpr) rfl rfl ?_)
  refine nx 3 rfl (bd h0 fun o23 h1 h0 => ?_)
  refine kE 0 o23 (fun v24 => ⟨[(3, .vec 16 1 0 (v24.map eS))], []⟩) ?_ ?_
  ·refine nx 4 rfl (bd h0 fun r20 e21 h0 => ?_)
   refine oK (strings_Join_ok o23 ([44, 32] : Bytes) _ e21) rfl ⟨AV.sub_vec _ _ _ _, sr, trivial⟩ Tryz.call80 rfl (nx 3 rfl ?_)
   exact mQ (oi h0) rfl (sr)
  refine lG (fun (q25 : (List Bytes) × Int) => ⟨[(3, .vec 16 1 0 (q25.1.map eS)), (6, .p (eL eTExpr l_0)), (7, .p (eI (l_0.length : Int))), (8, .p (eI q25.2))], []⟩) (fun m (q25 : (List Bytes) × Int) => format_list_l1 (format_Expr n) l_0 m q25.1 q25.2) (fun _ => rfl) ([], 0) h1 (ghost_le (le_mk ⟨⟨_, rfl, AV.sub_nilvec _ _ _⟩, er rfl, er rfl, er rfl, trivial⟩ trivial)) ?_
  rintro m ⟨out9, t10⟩ h1
  replace h1 : format_list_l1 (format_Expr n) l_0 (m + 1) out9 t10 = some o23 := h1
  rw [format_list_l1] at h1
  refine nx 5 rfl (fD [9] h1 rfl (fun c11 h1 => ?_) fun c11 h1 => ?_)
  ·refine nx 6 rfl (oE h1 TExpr.cells_eq rfl rfl (fun _ => rfl) fun hk12 h1 => ?_)
   refine nx 7 rfl (bd h1 fun r13 e14 h1 => ?_)
   refine oK (ih_format_Expr_ok (lat l_0 t10) _ e14) rfl ⟨sr, trivial⟩ Tryz.call10 rfl (mO rfl (op_bslice eS [r13] rfl rfl rfl rfl rfl rfl rfl rfl rfl rfl rfl rfl rfl rfl ?_))
   refine cc' h1 fun hk15 h1 => mO rfl (op_appV eS out9 [r13] rfl rfl rfl rfl rfl rfl rfl rfl rfl rfl rfl rfl rfl (fun _ => rfl) rfl rfl rfl rfl hk15 ?_)
   refine nx 3 rfl (oA h1 rfl rfl fun hk16 h1 => ?_)
   exact nx 2 rfl (eX (out9 ++ [r13], t10 + 1) h1 (gE rfl rfl))
  exact nx 2 rfl (eXi _ (oi h1).symm (gE rfl rfl))
 ·skip
  intro l_0 r h0
  rw [format_mapping] at h0
  refine pbodyA good Tryz.func33 rfl rfl rfl fun w0 => mP (fun v : Bytes => .p (eS v)) ?_
  refine nx 14 rfl (bd h0 fun o39 h1 h0 => ?_)
  refine kE 0 o39 (fun v40 => ⟨[(3, .vec 27 1 0 (v40.map eS))], []⟩) ?_ ?_
  ·refine nx 4 rfl (bd h0 fun r34 e35 h0 => ?_)
   refine oK (strings_Join_ok o39 ([44, 32] : Bytes) _ e35) rfl ⟨AV.sub_vec _ _ _ _, sr, trivial⟩ Tryz.call80 rfl (oC h0 rfl fun hk36 h0 => ?_)
   exact oC h0 rfl fun hk37 h0 => nx 3 rfl (mQ (oi h0) rfl (sr))
  refine lG (fun (q41 : (List Bytes) × Int) => ⟨[(0, .p (eL eTExpr l_0)), (3, .vec 27 1 0 (q41.1.map eS)), (4, .p (eI q41.2))], []⟩) (fun m (q41 : (List Bytes) × Int) => format_mapping_l1 (format_Expr n) (format_key n) l_0 m q41.1 q41.2) (fun _ => rfl) ([], 0) h1 (ghost_le (le_mk ⟨er rfl, ⟨_, rfl, AV.sub_nilvec _ _ _⟩, er rfl, trivial⟩ trivial)) ?_
  rintro m ⟨out16, i17⟩ h1
  replace h1 : format_mapping_l1 (format_Expr n) (format_key n) l_0 (m + 1) out16 i17 = some o39 := h1
  rw [format_mapping_l1] at h1
  refine nx 4 rfl (oA h1 rfl rfl fun hk18 h1 => ?_)
  refine nx 1 rfl (oLl (f := eTExpr) rfl rfl ?_)
  refine nx 2 rfl (fD [9] h1 rfl (fun c19 h1 => ?_) fun c19 h1 => ?_)
  ·refine nx 4 rfl (cc' h1 fun hk20 h1 => ?_)
   refine bd h1 fun r21 e22 h1 => cc' h1 fun hk23 h1 => cc' h1 fun hk24 h1 => cc' h1 fun hk25 h1 => bd h1 fun r26 e27 h1 => cc' h1 fun hk28 h1 => cc' h1 fun hk29 h1 => mG (gE (t := ⟨[(0, .p (eL eTExpr l_0)), (3, .vec 27 1 0 (out16.map eS)), (4, .p (eI i17))], []⟩) rfl rfl) (mS ⟨2, [15, 16], (by3 (some fun i => Nat.beq i 27 || Nat.beq i 27) none none), (by3 [(0, .p (eL eTExpr l_0)), (3, .vec 27 1 0 (out16.map eS)), (4, .p (eI i17))] [(0, .p (eL eTExpr l_0)), (3, .p (eL eS out16)), (4, .p (eI i17))] [(0, .p (eL eTExpr l_0)), (4, .p (eI i17))]), (fun _ => [])⟩ rfl rfl rfl ⟨rfl, rfl, rfl, trivial⟩ (lt2 ⟨rfl, rfl, rfl, trivial⟩ ⟨rfl, rfl, trivial⟩) rfl rfl rfl rfl ?_)
   refine ds_pure (by3 (.vec 27 1 0 (out16.map eS)) (.p (eL eS out16)) (.p (eL eS out16))) rfl rfl rfl (all3 rfl rfl (fun _ => rfl)) (lt2 rfl rfl) (stg_no rfl (stg_no rfl (stg_yes [(3, _)] ⟨.inl rfl, trivial⟩ (fun sl hsl K hK => one_op rfl (ok_move rfl rfl rfl (hsl _ _ rfl) hK)) stg_nil))) (ds_pure (fun _ => .p (eL eTExpr l_0)) rfl rfl rfl (all3 rfl rfl (fun _ => rfl)) (lt2 rfl rfl) (stg_no rfl (stg_yes [(0, _)] ⟨.inl rfl, trivial⟩ (fun sl hsl K hK => one_op rfl (ok_move rfl rfl rfl (hsl _ _ rfl) hK)) (stg_yes [(0, _)] ⟨.inl rfl, trivial⟩ (fun sl hsl K hK => one_op rfl (ok_move rfl rfl rfl (hsl _ _ rfl) hK)) stg_nil))) ?_)
   refine ds_pure (fun _ => .p (eI i17)) rfl rfl rfl (all3 rfl rfl (fun _ => rfl)) (lt2 rfl rfl) (stg_no rfl (stg_yes [(4, _)] ⟨.inl rfl, trivial⟩ (fun sl hsl K hK => one_op rfl (ok_move rfl rfl rfl (hsl _ _ rfl) hK)) (stg_yes [(4, _)] ⟨.inl rfl, trivial⟩ (fun sl hsl K hK => one_op rfl (ok_move rfl rfl rfl (hsl _ _ rfl) hK)) stg_nil))) (ds_pure (fun _ => .rptr (TExpr.cs (lat l_0 i17))) rfl rfl rfl (all3 rfl rfl (fun _ => rfl)) (lt2 rfl rfl) (stg_no rfl (stg_yes [(13, _), (14, _)] ⟨.inr ⟨1, _, rfl, rfl, rfl⟩, .inr ⟨2, _, rfl, rfl, rfl⟩, trivial⟩ (fun sl hsl K hK => one_op rfl (op_at (f := eTExpr) (l := l_0) TExpr.cs rfl rfl rfl rfl rfl rfl (hsl _ _ rfl) rfl (hsl _ _ rfl) hk20 TExpr.cells_eq (fun _ => rfl) hK)) (stg_yes [(13, _), (14, _)] ⟨.inr ⟨1, _, rfl, rfl, rfl⟩, .inr ⟨2, _, rfl, rfl, rfl⟩, trivial⟩ (fun sl hsl K hK => one_op rfl (op_at (f := eTExpr) (l := l_0) TExpr.cs rfl rfl rfl rfl rfl rfl (hsl _ _ rfl) rfl (hsl _ _ rfl) hk20 TExpr.cells_eq (fun _ => rfl) hK)) stg_nil))) ?_)
   refine ds_pure (fun _ => .p (.agg (TExpr.cs (lat l_0 i17)))) rfl rfl rfl (all3 rfl rfl (fun _ => rfl)) (lt2 rfl rfl) (stg_no rfl (stg_yes [(15, _)] ⟨.inr ⟨3, _, rfl, rfl, rfl⟩, trivial⟩ (fun sl hsl K hK => one_op rfl (ok_loadRA rfl rfl rfl rfl rfl (hsl _ _ rfl) rfl hK)) (stg_yes [(15, _)] ⟨.inr ⟨3, _, rfl, rfl, rfl⟩, trivial⟩ (fun sl hsl K hK => one_op rfl (ok_loadRA rfl rfl rfl rfl rfl (hsl _ _ rfl) rfl hK)) stg_nil))) (ds_pure (fun _ => .p (eS r21)) rfl rfl rfl (all3 rfl rfl (fun _ => rfl)) (lt2 rfl rfl) (stg_no rfl (stg_yes [(16, _)] ⟨.inr ⟨4, _, rfl, rfl, rfl⟩, trivial⟩ (fun sl hsl K hK => one_op rfl (ok_callP (ih_format_key_ok (lat l_0 i17) _ e22) rfl rfl rfl (args_cons (hsl _ _ rfl) args_nil) ⟨sr, trivial⟩ Tryz.call81 rfl hK)) (stg_yes [(16, _)] ⟨.inr ⟨4, _, rfl, rfl, rfl⟩, trivial⟩ (fun sl hsl K hK => one_op rfl (ok_callP (ih_format_key_ok (lat l_0 i17) _ e22) rfl rfl rfl (args_cons (hsl _ _ rfl) args_nil) ⟨sr, trivial⟩ Tryz.call81 rfl hK)) stg_nil))) ?_)
   refine ds_pure (fun _ => .p (eS (r21 ++ ([32, 61, 32] : Bytes)))) rfl rfl rfl (all3 rfl rfl (fun _ => rfl)) (lt2 rfl rfl) (stg_no rfl (stg_yes [(17, _)] ⟨.inr ⟨5, _, rfl, rfl, rfl⟩, trivial⟩ (fun sl hsl K hK => one_op rfl (ok_concat rfl rfl rfl (hsl _ _ rfl) rfl hk23 hK)) (stg_yes [(17, _)] ⟨.inr ⟨5, _, rfl, rfl, rfl⟩, trivial⟩ (fun sl hsl K hK => one_op rfl (ok_concat rfl rfl rfl (hsl _ _ rfl) rfl hk23 hK)) stg_nil))) (ds_pure (fun _ => .p (eL eTExpr l_0)) rfl rfl rfl (all3 rfl rfl (fun _ => rfl)) (lt2 rfl rfl) (stg_no rfl (stg_yes [(0, _)] ⟨.inl rfl, trivial⟩ (fun sl hsl K hK => one_op rfl (ok_move rfl rfl rfl (hsl _ _ rfl) hK)) (stg_yes [(0, _)] ⟨.inl rfl, trivial⟩ (fun sl hsl K hK => one_op rfl (ok_move rfl rfl rfl (hsl _ _ rfl) hK)) stg_nil))) ?_)
   refine ds_pure (fun _ => .p (eI i17)) rfl rfl rfl (all3 rfl rfl (fun _ => rfl)) (lt2 rfl rfl) (stg_no rfl (stg_yes [(4, _)] ⟨.inl rfl, trivial⟩ (fun sl hsl K hK => one_op rfl (ok_move rfl rfl rfl (hsl _ _ rfl) hK)) (stg_yes [(4, _)] ⟨.inl rfl, trivial⟩ (fun sl hsl K hK => one_op rfl (ok_move rfl rfl rfl (hsl _ _ rfl) hK)) stg_nil))) (ds_pure (fun _ => .p (eI (i17 + 1))) rfl rfl rfl (all3 rfl rfl (fun _ => rfl)) (lt2 rfl rfl) (stg_no rfl (stg_yes [(20, _)] ⟨.inr ⟨8, _, rfl, rfl, rfl⟩, trivial⟩ (fun sl hsl K hK => one_op rfl (ok_ar rfl rfl rfl (hsl _ _ rfl) rfl rfl hk24 hK)) (stg_yes [(20, _)] ⟨.inr ⟨8, _, rfl, rfl, rfl⟩, trivial⟩ (fun sl hsl K hK => one_op rfl (ok_ar rfl rfl rfl (hsl _ _ rfl) rfl rfl hk24 hK)) stg_nil))) ?_)
   refine ds_pure (fun _ => .rptr (TExpr.cs (lat l_0 (i17 + 1)))) rfl rfl rfl (all3 rfl rfl (fun _ => rfl)) (lt2 rfl rfl) (stg_no rfl (stg_yes [(19, _), (21, _)] ⟨.inr ⟨7, _, rfl, rfl, rfl⟩, .inr ⟨9, _, rfl, rfl, rfl⟩, trivial⟩ (fun sl hsl K hK => one_op rfl (op_at (f := eTExpr) (l := l_0) TExpr.cs rfl rfl rfl rfl rfl rfl (hsl _ _ rfl) rfl (hsl _ _ rfl) hk25 TExpr.cells_eq (fun _ => rfl) hK)) (stg_yes [(19, _), (21, _)] ⟨.inr ⟨7, _, rfl, rfl, rfl⟩, .inr ⟨9, _, rfl, rfl, rfl⟩, trivial⟩ (fun sl hsl K hK => one_op rfl (op_at (f := eTExpr) (l := l_0) TExpr.cs rfl rfl rfl rfl rfl rfl (hsl _ _ rfl) rfl (hsl _ _ rfl) hk25 TExpr.cells_eq (fun _ => rfl) hK)) stg_nil))) (ds_pure (fun _ => .p (.agg (TExpr.cs (lat l_0 (i17 + 1))))) rfl rfl rfl (all3 rfl rfl (fun _ => rfl)) (lt2 rfl rfl) (stg_no rfl (stg_yes [(22, _)] ⟨.inr ⟨10, _, rfl, rfl, rfl⟩, trivial⟩ (fun sl hsl K hK => one_op rfl (ok_loadRA rfl rfl rfl rfl rfl (hsl _ _ rfl) rfl hK)) (stg_yes [(22, _)] ⟨.inr ⟨10, _, rfl, rfl, rfl⟩, trivial⟩ (fun sl hsl K hK => one_op rfl (ok_loadRA rfl rfl rfl rfl rfl (hsl _ _ rfl) rfl hK)) stg_nil))) ?_)
   refine ds_pure (fun _ => .p (eS r26)) rfl rfl rfl (all3 rfl rfl (fun _ => rfl)) (lt2 rfl rfl) (stg_no rfl (stg_no rfl (stg_yes [(23, _)] ⟨.inr ⟨11, _, rfl, rfl, rfl⟩, trivial⟩ (fun sl hsl K hK => one_op rfl (ok_callP (ih_format_Expr_ok (lat l_0 (i17 + 1)) _ e27) rfl rfl rfl (args_cons (hsl _ _ rfl) args_nil) ⟨sr, trivial⟩ Tryz.call10 rfl hK)) stg_nil))) (ds_pure (fun _ => .p (eS ((r21 ++ ([32, 61, 32] : Bytes)) ++ r26))) rfl rfl rfl (all3 rfl rfl (fun _ => rfl)) (lt2 rfl rfl) (stg_no rfl (stg_yes [(18, _), (24, _)] ⟨.inr ⟨6, _, rfl, rfl, rfl⟩, .inr ⟨12, _, rfl, rfl, rfl⟩, trivial⟩ (fun sl hsl K hK => one_op rfl (ok_concat rfl rfl rfl (hsl _ _ rfl) (hsl _ _ rfl) hk28 hK)) (stg_yes [(18, _), (24, _)] ⟨.inr ⟨6, _, rfl, rfl, rfl⟩, .inr ⟨12, _, rfl, rfl, rfl⟩, trivial⟩ (fun sl hsl K hK => one_op rfl (ok_concat rfl rfl rfl (hsl _ _ rfl) (hsl _ _ rfl) hk28 hK)) stg_nil))) ?_)
   refine ds_pure (fun _ => .p (eL eS ([(r21 ++ ([32, 61, 32] : Bytes)) ++ r26]))) rfl rfl rfl (all3 rfl rfl (fun _ => rfl)) (lt2 rfl rfl) (stg_no rfl (stg_no rfl (stg_yes [(25, _)] ⟨.inr ⟨13, _, rfl, rfl, rfl⟩, trivial⟩ (fun sl hsl K hK => one_op rfl (op_bslice eS [(r21 ++ ([32, 61, 32] : Bytes)) ++ r26] rfl rfl rfl rfl rfl rfl (elems_cons (hsl _ _ rfl) rfl elems_nil) rfl rfl rfl rfl rfl rfl rfl hK)) stg_nil))) (ds_imp (fun _ => .vec 27 1 0 ((out16 ++ ([(r21 ++ ([32, 61, 32] : Bytes)) ++ r26])).map eS)) [(12, _), (26, _)] rfl ⟨.inr ⟨0, _, rfl, rfl, rfl⟩, .inr ⟨14, _, rfl, rfl, rfl⟩, trivial⟩ rfl rfl (all2 rfl (fun _ => rfl)) (lt2 (fun h => absurd h (by decide)) (fun _ => rfl)) (fun sl hsl K hK => one_op rfl (op_appV eS out16 ([(r21 ++ ([32, 61, 32] : Bytes)) ++ r26]) rfl rfl rfl rfl rfl rfl rfl rfl (hsl _ _ rfl) rfl rfl (hsl _ _ rfl) rfl (fun _ => rfl) rfl rfl rfl rfl hk29 hK)) ?_)
   refine ds_imp (fun _ => .vec 27 1 0 ((out16 ++ ([(r21 ++ ([32, 61, 32] : Bytes)) ++ r26])).map eS)) [(27, _)] rfl ⟨.inr ⟨15, _, rfl, rfl, rfl⟩, trivial⟩ rfl rfl (fun _ => rfl) (lt2 (fun h => absurd h (by decide)) (fun h => absurd h (by decide))) (fun sl hsl K hK => one_op rfl (ok_assign rfl rfl rfl (hsl _ _ rfl) hK)) (ds_nil ?_)
   refine nx 3 rfl (oA h1 rfl rfl fun hk30 h1 => ?_)
   exact nx 2 rfl (eX (out16 ++ ([(r21 ++ ([32, 61, 32] : Bytes)) ++ r26]), i17 + 2) h1 (gE rfl rfl))
  exact nx 2 rfl (eXi _ (oi h1).symm (gE rfl rfl))
 ·skip
  intro e_0 n_1 r h0
  rw [format_at] at h0
  refine pbodyA good Tryz.func34 rfl rfl rfl fun w0 => mP (fun v : Bytes => .p (eS v)) ?_
  refine nx 9 rfl (bd h0 fun r1 e2 h0 => ?_)
  refine oK (format_level_ok e_0 _ e2) rfl ⟨sr, trivial⟩ Tryz.call36 rfl (nx 3 rfl ?_)
  refine fD [8] h0 rfl (fun c3 h0 => ?_) fun c3 h0 => ?_
  ·refine nx 4 rfl (bd h0 fun r4 e5 h0 => ?_)
   refine oK (ih_format_Expr_ok e_0 _ e5) rfl ⟨sr, trivial⟩ Tryz.call10 rfl (oC h0 rfl fun hk6 h0 => ?_)
   exact oC h0 rfl fun hk7 h0 => nx 3 rfl (mQ (oi h0) rfl (sr))
  refine nx 5 rfl (bd h0 fun r8 e9 h0 => ?_)
  refine oK (ih_format_Expr_ok e_0 _ e9) rfl ⟨sr, trivial⟩ Tryz.call10 rfl (nx 3 rfl ?_)
  exact mQ (oi h0) rfl (sr)
 ·skip
  intro e_0 r h0
  rw [format_loop] at h0
  refine pbodyA good Tryz.func37 rfl rfl rfl fun w0 => mP (fun v : Bytes => .p (eS v)) ?_
  refine nx 10 rfl (bd h0 fun o36 h1 h0 => ?_)
  refine kN o36 (fun v37 => ⟨[(1, .ptr 1 0), (3, .p (eS v37))], [(1, (TExpr.cs e_0).map .p)]⟩) ?_ ?_
  ·refine nx 2 rfl (cc' h0 fun hk5 h0 => ?_)
   refine cc' h0 fun hk6 h0 => bd h0 fun r7 e8 h0 => cc' h0 fun hk9 h0 => cc' h0 fun hk10 h0 => cc' h0 fun hk11 h0 => bd h0 fun r12 e13 h0 => cc' h0 fun hk14 h0 => cc' h0 fun hk15 h0 => mG (gE (t := ⟨[(1, .ptr 1 0), (3, .p (eS o36))], [(1, (TExpr.cs e_0).map .p)]⟩) rfl rfl) (mS ⟨1, [18], (fun _ => none), (by2 [(1, .ptr 1 0), (3, .p (eS o36))] [(1, .ptr 1 0)]), (fun _ => [(1, [.p (eI e_0.fKind), .p (eI e_0.fOp), .p (eS e_0.fName), .p (eS e_0.fKey), .p (eI e_0.fValue.fKind), .p (eI e_0.fValue.fNum), .p (eS e_0.fValue.fStr), .p (eL eTValue e_0.fValue.fItems), .p (eL eS e_0.fValue.fKeys), .p (eL eTExpr e_0.fKids), .p (eI e_0.fAt)])])⟩ rfl rfl rfl ⟨rfl, rfl, trivial⟩ (lt1 ⟨rfl, trivial⟩) rfl rfl rfl rfl ?_)
   refine ds_pure (fun _ => .p (eS o36)) rfl rfl rfl (all2 rfl (fun _ => rfl)) (lt1 rfl) (stg_no rfl (stg_yes [(3, _)] ⟨.inl rfl, trivial⟩ (fun sl hsl K hK => one_op rfl (ok_move rfl rfl rfl (hsl _ _ rfl) hK)) stg_nil)) (ds_pure (fun _ => .ptr 1 2) rfl rfl rfl (all2 rfl (fun _ => rfl)) (lt1 rfl) (stg_no rfl (stg_yes [(1, _)] ⟨.inl rfl, trivial⟩ (fun sl hsl K hK => one_op rfl (ok_fieldAddrP rfl rfl rfl rfl rfl rfl rfl rfl (hsl _ _ rfl) hK)) stg_nil)) ?_)
   refine ds_pure (fun _ => .p (eS e_0.fName)) rfl rfl rfl (all2 rfl (fun _ => rfl)) (lt1 rfl) (stg_no rfl (stg_yes [(14, _)] ⟨.inr ⟨1, _, rfl, rfl, rfl⟩, trivial⟩ (fun sl hsl K hK => one_op rfl (ok_loadP1 rfl rfl rfl rfl rfl (hsl _ _ rfl) rfl rfl hK)) stg_nil)) (ds_pure (fun _ => .p (eS (e_0.fName ++ ([32, 105, 110, 32] : Bytes)))) rfl rfl rfl (all2 rfl (fun _ => rfl)) (lt1 rfl) (stg_no rfl (stg_yes [(15, _)] ⟨.inr ⟨2, _, rfl, rfl, rfl⟩, trivial⟩ (fun sl hsl K hK => one_op rfl (ok_concat rfl rfl rfl (hsl _ _ rfl) rfl hk5 hK)) stg_nil)) ?_)
   refine ds_pure (fun _ => .ptr 1 9) rfl rfl rfl (all2 rfl (fun _ => rfl)) (lt1 rfl) (stg_no rfl (stg_yes [(1, _)] ⟨.inl rfl, trivial⟩ (fun sl hsl K hK => one_op rfl (ok_fieldAddrP rfl rfl rfl rfl rfl rfl rfl rfl (hsl _ _ rfl) hK)) stg_nil)) (ds_pure (fun _ => .p (eL eTExpr e_0.fKids)) rfl rfl rfl (all2 rfl (fun _ => rfl)) (lt1 rfl) (stg_no rfl (stg_yes [(17, _)] ⟨.inr ⟨4, _, rfl, rfl, rfl⟩, trivial⟩ (fun sl hsl K hK => one_op rfl (ok_loadP1 rfl rfl rfl rfl rfl (hsl _ _ rfl) rfl rfl hK)) stg_nil)) ?_)
   refine ds_pure (fun _ => .rptr (TExpr.cs (lat e_0.fKids 0))) rfl rfl rfl (all2 rfl (fun _ => rfl)) (lt1 rfl) (stg_no rfl (stg_yes [(18, _)] ⟨.inr ⟨5, _, rfl, rfl, rfl⟩, trivial⟩ (fun sl hsl K hK => one_op rfl (op_at (f := eTExpr) (l := e_0.fKids) TExpr.cs rfl rfl rfl rfl rfl rfl (hsl _ _ rfl) rfl rfl hk6 TExpr.cells_eq (fun _ => rfl) hK)) stg_nil)) (ds_pure (fun _ => .p (.agg (TExpr.cs (lat e_0.fKids 0)))) rfl rfl rfl (all2 rfl (fun _ => rfl)) (lt1 rfl) (stg_no rfl (stg_yes [(19, _)] ⟨.inr ⟨6, _, rfl, rfl, rfl⟩, trivial⟩ (fun sl hsl K hK => one_op rfl (ok_loadRA rfl rfl rfl rfl rfl (hsl _ _ rfl) rfl hK)) stg_nil)) ?_)
   refine ds_pure (fun _ => .p (eS r7)) rfl rfl rfl (all2 rfl (fun _ => rfl)) (lt1 rfl) (stg_no rfl (stg_yes [(20, _)] ⟨.inr ⟨7, _, rfl, rfl, rfl⟩, trivial⟩ (fun sl hsl K hK => one_op rfl (ok_callP (ih_format_Expr_ok (lat e_0.fKids 0) _ e8) rfl rfl rfl (args_cons (hsl _ _ rfl) args_nil) ⟨sr, trivial⟩ Tryz.call10 rfl hK)) stg_nil)) (ds_pure (fun _ => .p (eS ((e_0.fName ++ ([32, 105, 110, 32] : Bytes)) ++ r7))) rfl rfl rfl (all2 rfl (fun _ => rfl)) (lt1 rfl) (stg_no rfl (stg_yes [(16, _), (21, _)] ⟨.inr ⟨3, _, rfl, rfl, rfl⟩, .inr ⟨8, _, rfl, rfl, rfl⟩, trivial⟩ (fun sl hsl K hK => one_op rfl (ok_concat rfl rfl rfl (hsl _ _ rfl) (hsl _ _ rfl) hk9 hK)) stg_nil)) ?_)
   refine ds_pure (fun _ => .p (eS (((e_0.fName ++ ([32, 105, 110, 32] : Bytes)) ++ r7) ++ ([32, 58, 32] : Bytes)))) rfl rfl rfl (all2 rfl (fun _ => rfl)) (lt1 rfl) (stg_no rfl (stg_yes [(22, _)] ⟨.inr ⟨9, _, rfl, rfl, rfl⟩, trivial⟩ (fun sl hsl K hK => one_op rfl (ok_concat rfl rfl rfl (hsl _ _ rfl) rfl hk10 hK)) stg_nil)) (ds_pure (fun _ => .ptr 1 9) rfl rfl rfl (all2 rfl (fun _ => rfl)) (lt1 rfl) (stg_no rfl (stg_yes [(1, _)] ⟨.inl rfl, trivial⟩ (fun sl hsl K hK => one_op rfl (ok_fieldAddrP rfl rfl rfl rfl rfl rfl rfl rfl (hsl _ _ rfl) hK)) stg_nil)) ?_)
   refine ds_pure (fun _ => .p (eL eTExpr e_0.fKids)) rfl rfl rfl (all2 rfl (fun _ => rfl)) (lt1 rfl) (stg_no rfl (stg_yes [(24, _)] ⟨.inr ⟨11, _, rfl, rfl, rfl⟩, trivial⟩ (fun sl hsl K hK => one_op rfl (ok_loadP1 rfl rfl rfl rfl rfl (hsl _ _ rfl) rfl rfl hK)) stg_nil)) (ds_pure (fun _ => .rptr (TExpr.cs (lat e_0.fKids 1))) rfl rfl rfl (all2 rfl (fun _ => rfl)) (lt1 rfl) (stg_no rfl (stg_yes [(25, _)] ⟨.inr ⟨12, _, rfl, rfl, rfl⟩, trivial⟩ (fun sl hsl K hK => one_op rfl (op_at (f := eTExpr) (l := e_0.fKids) TExpr.cs rfl rfl rfl rfl rfl rfl (hsl _ _ rfl) rfl rfl hk11 TExpr.cells_eq (fun _ => rfl) hK)) stg_nil)) ?_)
   refine ds_pure (fun _ => .p (.agg (TExpr.cs (lat e_0.fKids 1)))) rfl rfl rfl (all2 rfl (fun _ => rfl)) (lt1 rfl) (stg_no rfl (stg_yes [(26, _)] ⟨.inr ⟨13, _, rfl, rfl, rfl⟩, trivial⟩ (fun sl hsl K hK => one_op rfl (ok_loadRA rfl rfl rfl rfl rfl (hsl _ _ rfl) rfl hK)) stg_nil)) (ds_pure (fun _ => .p (eS r12)) rfl rfl rfl (all2 rfl (fun _ => rfl)) (lt1 rfl) (stg_no rfl (stg_yes [(27, _)] ⟨.inr ⟨14, _, rfl, rfl, rfl⟩, trivial⟩ (fun sl hsl K hK => one_op rfl (ok_callP (ih_format_Expr_ok (lat e_0.fKids 1) _ e13) rfl rfl rfl (args_cons (hsl _ _ rfl) args_nil) ⟨sr, trivial⟩ Tryz.call10 rfl hK)) stg_nil)) ?_)
   refine ds_pure (fun _ => .p (eS ((((e_0.fName ++ ([32, 105, 110, 32] : Bytes)) ++ r7) ++ ([32, 58, 32] : Bytes)) ++ r12))) rfl rfl rfl (all2 rfl (fun _ => rfl)) (lt1 rfl) (stg_no rfl (stg_yes [(23, _), (28, _)] ⟨.inr ⟨10, _, rfl, rfl, rfl⟩, .inr ⟨15, _, rfl, rfl, rfl⟩, trivial⟩ (fun sl hsl K hK => one_op rfl (ok_concat rfl rfl rfl (hsl _ _ rfl) (hsl _ _ rfl) hk14 hK)) stg_nil)) (ds_pure (fun _ => .p (eS (o36 ++ ((((e_0.fName ++ ([32, 105, 110, 32] : Bytes)) ++ r7) ++ ([32, 58, 32] : Bytes)) ++ r12)))) rfl rfl rfl (all2 rfl (fun _ => rfl)) (lt1 rfl) (stg_no rfl (stg_yes [(13, _), (29, _)] ⟨.inr ⟨0, _, rfl, rfl, rfl⟩, .inr ⟨16, _, rfl, rfl, rfl⟩, trivial⟩ (fun sl hsl K hK => one_op rfl (ok_concat rfl rfl rfl (hsl _ _ rfl) (hsl _ _ rfl) hk15 hK)) stg_nil)) ?_)
   refine ds_imp (fun _ => .p (eS (o36 ++ ((((e_0.fName ++ ([32, 105, 110, 32] : Bytes)) ++ r7) ++ ([32, 58, 32] : Bytes)) ++ r12)))) [(30, _)] rfl ⟨.inr ⟨17, _, rfl, rfl, rfl⟩, trivial⟩ rfl rfl (fun _ => rfl) (lt1 (fun h => absurd h (by decide))) (fun sl hsl K hK => one_op rfl (ok_assign rfl rfl rfl (hsl _ _ rfl) hK)) (ds_nil ?_)
   refine nx 5 rfl (cc' h0 fun hk16 h0 => ?_)
   refine mO rfl (op_sliceL (f := eTExpr) (l := e_0.fKids) rfl rfl rfl rfl rfl rfl rfl rfl rfl rfl hk16 (fun x => congrArg List.length (TExpr.cells_eq x)) ?_)
   refine nx 3 rfl (bd h0 fun o38 h1 h0 => ?_)
   refine kN o38 (fun v39 => ⟨[(3, .p (eS v39.1)), (4, .p (eL eTExpr v39.2))], []⟩) ?_ ?_
   ·refine nx 2 rfl (bd h0 fun o40 h1 h0 => ?_)
    refine kN o40 (fun v41 => ⟨[(3, .p (eS v41))], []⟩) ?_ ?_
    ·exact nx 7 rfl (mQ (oi h0) rfl (sr))
    refine nx 3 rfl (oLl (f := eTExpr) rfl rfl ?_)
    refine nx 2 rfl (fD [48] h1 rfl (fun c26 h1 => ?_) fun c26 h1 => ?_)
    ·refine nx 4 rfl (oE h1 TExpr.cells_eq rfl rfl (fun _ => rfl) fun hk27 h1 => ?_)
     refine nx 1 rfl (bd h1 fun r28 e29 h1 => ?_)
     refine oK (ih_format_Expr_ok (lat o38.2 0) _ e29) rfl ⟨sr, trivial⟩ Tryz.call10 rfl (oC h1 rfl fun hk30 h1 => ?_)
     exact oC h1 rfl fun hk31 h1 => nx 2 rfl (eX _ (oi h1).symm (gE rfl rfl))
    exact nx 2 rfl (eX _ (oi h1).symm (gE rfl rfl))
   refine nx 6 rfl (fD [36] h1 rfl (fun c17 h1 => ?_) fun c17 h1 => ?_)
   ·refine nx 5 rfl (oE h1 TExpr.cells_eq rfl rfl (fun _ => rfl) fun hk18 h1 => ?_)
    refine nx 1 rfl (bd h1 fun r19 e20 h1 => ?_)
    refine oK (ih_format_Expr_ok (lat (sub e_0.fKids 2 (e_0.fKids.length : Int)) 0) _ e20) rfl ⟨sr, trivial⟩ Tryz.call10 rfl (oC h1 rfl fun hk21 h1 => ?_)
    refine oC h1 rfl fun hk22 h1 => nx 2 rfl (mG (gE (t := ⟨[(3, .p (eS ((o36 ++ ((((e_0.fName ++ ([32, 105, 110, 32] : Bytes)) ++ r7) ++ ([32, 58, 32] : Bytes)) ++ r12)) ++ (([32, 61, 62, 32] : Bytes) ++ r19)))), (4, .p (eL eTExpr (sub e_0.fKids 2 (e_0.fKids.length : Int))))], []⟩) rfl rfl) ?_)
    refine nx 2 rfl (cc' h1 fun hk23 h1 => ?_)
    refine mO rfl (op_sliceL (f := eTExpr) (l := sub e_0.fKids 2 (e_0.fKids.length : Int)) rfl rfl rfl rfl rfl rfl rfl rfl rfl rfl hk23 (fun x => congrArg List.length (TExpr.cells_eq x)) ?_)
    exact nx 2 rfl (eX _ (oi h1).symm (gE rfl rfl))
   exact nx 2 rfl (eX _ (oi h1).symm (gE rfl rfl))
  refine nx 4 rfl (oS rfl rfl ?_)
  refine nx 1 rfl (fN [7] h1 rfl (fun c1 h1 => ?_) fun c1 h1 => ?_)
  ·exact nx 2 rfl (eX _ (oi h1).symm (gE rfl rfl))
  refine nx 5 rfl (oC h1 rfl fun hk2 h1 => ?_)
  exact oC h1 rfl fun hk3 h1 => nx 2 rfl (eX _ (oi h1).symm (gE rfl rfl))
 ·skip
  intro e_0 r h0
  rw [format_key] at h0
  refine pbodyA good Tryz.func81 rfl rfl rfl fun w0 => mP (fun v : Bytes => .p (eS v)) ?_
  refine nx 8 rfl (bd h0 fun o17 h1 h0 => ?_)
  refine kN o17 (fun v18 => ⟨[(1, .ptr 1 0), (3, .p (eB v18))], [(1, (TExpr.cs e_0).map .p)]⟩) ?_ ?_
  ·refine nx 1 rfl (fB [3] h0 rfl (fun c3 h0 => ?_) fun c3 h0 => ?_)
   ·refine nx 7 rfl (bd h0 fun r4 e5 h0 => ?_)
    refine oK (format_bare_ok _ e_0.fValue.fStr _ e5) rfl ⟨sr, trivial⟩ Tryz.call121 rfl (nx 1 rfl ?_)
    refine fB [16] h0 rfl (fun c6 h0 => ?_) fun c6 h0 => ?_
    ·exact nx 9 rfl (mQ (oi h0) rfl (sr))
    refine nx 5 rfl (bd h0 fun r7 e8 h0 => ?_)
    refine oK (ih_format_Expr_ok e_0 _ e8) rfl ⟨sr, trivial⟩ Tryz.call10 rfl (nx 3 rfl ?_)
    exact mQ (oi h0) rfl (sr)
   refine nx 8 rfl (fD [22, 25] h0 rfl (fun c9 h0 => ?_) fun c9 h0 => ?_)
   ·refine nx 4 rfl (bd h0 fun r10 e11 h0 => ?_)
    refine oK (ih_format_Expr_ok e_0 _ e11) rfl ⟨sr, trivial⟩ Tryz.call10 rfl (nx 3 rfl ?_)
    exact mQ (oi h0) rfl (sr)
   refine nx 5 rfl (bd h0 fun r12 e13 h0 => ?_)
   refine oK (ih_format_Expr_ok e_0 _ e13) rfl ⟨sr, trivial⟩ Tryz.call10 rfl (oC h0 rfl fun hk14 h0 => ?_)
   exact oC h0 rfl fun hk15 h0 => nx 3 rfl (mQ (oi h0) rfl (sr))
  refine nx 5 rfl (fD [6, 7] h1 rfl (fun c1 h1 => ?_) fun c1 h1 => ?_)
  ·exact nx 7 rfl (eX _ (oi h1).symm (gE rfl rfl))
  exact nx 7 rfl (eX _ (oi h1).symm (gE rfl rfl))
theorem format_Expr_ok (n : Nat) : ∀ (e_0 : TExpr) (r : Bytes), format_Expr n e_0 = some r → PCalls Tryz.prog 10 [.agg (TExpr.cs e_0)] (· = .p (eS r)) := (format_Expr_all n).1
def format_write_l1 (n : Nat) (b_1 : TBody) (indent_2 : Bytes) : Nat → Int → (List UInt8) → Option (List UInt8)
 | 0, _, _ => none
 | m + 1, t14, f15 =>
 if t14 < (b_1.fAttrs.length : Int) then
  ck ((0 : Int) ≤ t14 ∧ t14 < (b_1.fAttrs.length : Int)) <|
  ck (indent_2.length + ((lat b_1.fAttrs t14).fName).length ≤ 9223372036854775807) <|
  ck ((indent_2 ++ ((lat b_1.fAttrs t14).fName)).length + ([32, 61, 32] : Bytes).length ≤ 9223372036854775807) <|
  (format_Expr n ((lat b_1.fAttrs t14).fExpr)).bind fun r20 =>
  ck (((indent_2 ++ ((lat b_1.fAttrs t14).fName)) ++ ([32, 61, 32] : Bytes)).length + r20.length ≤ 9223372036854775807) <|
  ck ((((indent_2 ++ ((lat b_1.fAttrs t14).fName)) ++ ([32, 61, 32] : Bytes)) ++ r20).length + ([10] : Bytes).length ≤ 9223372036854775807) <|
  (strings_Builder_WriteString (TBuilder.mk f15) ((((indent_2 ++ ((lat b_1.fAttrs t14).fName)) ++ ([32, 61, 32] : Bytes)) ++ r20) ++ ([10] : Bytes))).bind fun r24 =>
  ck (inR (t14 + 1)) <|
  format_write_l1 n b_1 indent_2 m (t14 + 1) r24.2.2.fbuf
 else
  some f15
def format_write_l3 (n : Nat) (b_1 : TBody) (t69 : Int) : Nat → Int → (List UInt8) → Option (List UInt8)
 | 0, _, _ => none
 | m + 1, t86, f87 =>
 if t86 < (((lat b_1.fBlocks t69).fLabels).length : Int) then
  ck ((0 : Int) ≤ t86 ∧ t86 < (((lat b_1.fBlocks t69).fLabels).length : Int)) <|
  (strlit_Quote n (lat ((lat b_1.fBlocks t69).fLabels) t86)).bind fun r90 =>
  ck (([32] : Bytes).length + r90.length ≤ 9223372036854775807) <|
  (strings_Builder_WriteString (TBuilder.mk f87) (([32] : Bytes) ++ r90)).bind fun r93 =>
  ck (inR (t86 + 1)) <|
  format_write_l3 n b_1 t69 m (t86 + 1) r93.2.2.fbuf
 else
  some f87
def format_write_l4 (n : Nat) (r_format_write : TBuilder → TBody → Bytes → Option TBuilder) (b_1 : TBody) (indent_2 : Bytes) : Nat → Int → (List UInt8) → Option (List UInt8)
 | 0, _, _ => none
 | m + 1, t69, f70 =>
 if t69 < (b_1.fBlocks.length : Int) then
  ck ((0 : Int) ≤ t69 ∧ t69 < (b_1.fBlocks.length : Int)) <|
  ck (indent_2.length + ((lat b_1.fBlocks t69).fType).length ≤ 9223372036854775807) <|
  (strings_Builder_WriteString (TBuilder.mk f70) (indent_2 ++ ((lat b_1.fBlocks t69).fType))).bind fun r74 =>
  (format_write_l3 n b_1 t69 n 0 r74.2.2.fbuf).bind fun f98 =>
  (strings_Builder_WriteString (TBuilder.mk f98) ([32, 123, 10] : Bytes)).bind fun r99 =>
  ck (indent_2.length + ([32, 32] : Bytes).length ≤ 9223372036854775807) <|
  (r_format_write (TBuilder.mk r99.2.2.fbuf) ((lat b_1.fBlocks t69).fBody) (indent_2 ++ ([32, 32] : Bytes))).bind fun r102 =>
  ck (indent_2.length + ([125, 10] : Bytes).length ≤ 9223372036854775807) <|
  (strings_Builder_WriteString (TBuilder.mk r102.fbuf) (indent_2 ++ ([125, 10] : Bytes))).bind fun r105 =>
  ck (inR (t69 + 1)) <|
  format_write_l4 n r_format_write b_1 indent_2 m (t69 + 1) r105.2.2.fbuf
 else
  some f70
def format_write : Nat → TBuilder → TBody → Bytes → Option TBuilder
 | 0, _, _, _ => none
 | n + 1, w_0, b_1, indent_2 =>
 (format_write_l1 n b_1 indent_2 n 0 w_0.fbuf).bind fun f29 =>
 (format_write_l4 n (format_write n) b_1 indent_2 n 0 f29).bind fun f110 =>
 some (TBuilder.mk f110)
set_option maxHeartbeats 4000000 in
theorem format_write_ok (n : Nat) : ∀ (w_0 : TBuilder) (b_1 : TBody) (indent_2 : Bytes) (r : TBuilder), format_write n w_0 b_1 indent_2 = some r → OCalls Tryz.prog 46 [.ptr 1000000 0, .p (.agg (TBody.cs b_1)), .p (eS indent_2)] [(1000000, [.bptr 77 2 1000000, .vec 900000 1 (5 + 1) (w_0.fbuf.map eU)])] (fun x y => x = .tuple [] ∧ y = [(1000000, [.bptr 77 2 1000000, .vec 2000000 1 (5 + 1) (r.fbuf.map eU)])]) := by
 induction n with
 | zero => intro w_0 b_1 indent_2 r h0; cases h0
 | succ n ih =>
 have ih_format_write_ok := ih
 intro w_0 b_1 indent_2 r h0
 rw [format_write] at h0
 refine obodyG good [800000] [1000000] Tryz.func46 rfl rfl rfl rfl rfl fun w0 F => mPo (fun v : TBuilder => .tuple []) (fun v => [(1000000, [.bptr 77 2 1000000, .vec 2000000 1 (5 + 1) (v.fbuf.map eU)])]) ?_
 refine nx 9 rfl (oLl (f := eTAttribute) rfl rfl ?_)
 refine nx 3 rfl (bd h0 fun o114 h1 h0 => ?_)
 refine kE 0 o114 (fun v115 => ⟨[(0, .ptr 1000000 0), (2, .p (eS indent_2)), (4, .ptr 4 0)], [(4, (TBody.cs b_1).map .p), (1000000, [.bptr 77 2 1000000, .vec 900000 1 (5 + 1) (v115.map eU)])]⟩) ?_ ?_
 ·refine nx 5 rfl (oLl (f := eTBlock) rfl rfl ?_)
  refine nx 3 rfl (bd h0 fun o116 h1 h0 => ?_)
  refine kE 2 o116 (fun v117 => ⟨[], [(1000000, [.bptr 77 2 1000000, .vec 900000 1 (5 + 1) (v117.map eU)])]⟩) ?_ ?_
  ·exact nx 1 rfl (mQon (oi h0) (ghost_trans (ghost_ren 900000 800000 rfl rfl rfl rfl rfl) (ghost_refl _)) rfl rfl rfl rfl (sr) ⟨⟨_, rfl, ⟨sr, sr, trivial⟩⟩, trivial⟩)
  refine lG (fun (q118 : Int × (List UInt8)) => ⟨[(0, .ptr 1000000 0), (2, .p (eS indent_2)), (33, .p (eL eTBlock b_1.fBlocks)), (34, .p (eI (b_1.fBlocks.length : Int))), (35, .p (eI q118.1))], [(1000000, [.bptr 77 2 1000000, .vec 900000 1 (5 + 1) (q118.2.map eU)])]⟩) (fun m (q118 : Int × (List UInt8)) => format_write_l4 n (format_write n) b_1 indent_2 m q118.1 q118.2) (fun _ => rfl) (0, o114) h1 (gE rfl rfl) ?_
  rintro m ⟨t69, f70⟩ h1
  replace h1 : format_write_l4 n (format_write n) b_1 indent_2 (m + 1) t69 f70 = some o116 := h1
  rw [format_write_l4] at h1
  refine nx 5 rfl (fD [36] h1 rfl (fun c71 h1 => ?_) fun c71 h1 => ?_)
  ·refine nx 6 rfl (oE h1 TBlock.cells_eq rfl rfl (fun _ => rfl) fun hk72 h1 => ?_)
   refine nx 10 rfl (oC h1 rfl fun hk73 h1 => ?_)
   refine bd h1 fun r74 e75 h1 => mO rfl (op_callV [1000000] [900000] 109000 109001 (strings_Builder_WriteString_ok (TBuilder.mk f70) (indent_2 ++ ((lat b_1.fBlocks t69).fType)) _ e75) rfl rfl rfl rfl rfl ⟨sr, sr, trivial⟩ rfl rfl ⟨⟨_, rfl, ⟨sr, sr, trivial⟩⟩, trivial⟩ rfl rfl rfl rfl rfl rfl rfl rfl Tryz.call79 rfl rfl ?_)
   refine nx 6 rfl (oLl (f := eS) rfl rfl ?_)
   refine nx 3 rfl (bd h1 fun o119 h2 h1 => ?_)
   refine kE 4 o119 (fun v120 => ⟨[(0, .ptr 1000000 0), (2, .p (eS indent_2)), (9, .ptr 9 0), (33, .p (eL eTBlock b_1.fBlocks)), (34, .p (eI (b_1.fBlocks.length : Int))), (35, .p (eI t69))], [(9, (TBlock.cs (lat b_1.fBlocks t69)).map .p), (1000000, [.bptr 77 2 1000000, .vec 110000 1 (5 + 1) (v120.map eU)])]⟩) ?_ ?_
   ·refine nx 4 rfl (bd h1 fun r99 e100 h1 => ?_)
    refine mO rfl (op_callV [1000000] [110000] 112000 112001 (strings_Builder_WriteString_ok (TBuilder.mk o119) ([32, 123, 10] : Bytes) _ e100) rfl rfl rfl rfl rfl ⟨sr, sr, trivial⟩ rfl rfl ⟨⟨_, rfl, ⟨sr, sr, trivial⟩⟩, trivial⟩ rfl rfl rfl rfl rfl rfl rfl rfl Tryz.call79 rfl rfl ?_)
    refine nx 7 rfl (oC h1 rfl fun hk101 h1 => ?_)
    refine bd h1 fun r102 e103 h1 => mO rfl (op_callV [1000000] [112000] 113000 113001 (ih_format_write_ok (TBuilder.mk r99.2.2.fbuf) ((lat b_1.fBlocks t69).fBody) (indent_2 ++ ([32, 32] : Bytes)) _ e103) rfl rfl rfl rfl rfl ⟨sr, sr, sr, trivial⟩ rfl rfl ⟨⟨_, rfl, ⟨sr, sr, trivial⟩⟩, trivial⟩ rfl rfl rfl rfl rfl rfl rfl rfl Tryz.call46 rfl rfl ?_)
    refine nx 4 rfl (oC h1 rfl fun hk104 h1 => ?_)
    refine bd h1 fun r105 e106 h1 => mO rfl (op_callV [1000000] [113000] 114000 114001 (strings_Builder_WriteString_ok (TBuilder.mk r102.fbuf) (indent_2 ++ ([125, 10] : Bytes)) _ e106) rfl rfl rfl rfl rfl ⟨sr, sr, trivial⟩ rfl rfl ⟨⟨_, rfl, ⟨sr, sr, trivial⟩⟩, trivial⟩ rfl rfl rfl rfl rfl rfl rfl rfl Tryz.call79 rfl rfl ?_)
    refine nx 2 rfl (oA h1 rfl rfl fun hk107 h1 => ?_)
    exact nx 2 rfl (eX (t69 + 1, r105.2.2.fbuf) h1 (ghost_trans (ghost_ren 114000 900000 rfl rfl rfl rfl rfl) (gE rfl rfl)))
   refine lG (fun (q121 : Int × (List UInt8)) => ⟨[(0, .ptr 1000000 0), (2, .p (eS indent_2)), (9, .ptr 9 0), (33, .p (eL eTBlock b_1.fBlocks)), (34, .p (eI (b_1.fBlocks.length : Int))), (35, .p (eI t69)), (46, .p (eL eS ((lat b_1.fBlocks t69).fLabels))), (47, .p (eI (((lat b_1.fBlocks t69).fLabels).length : Int))), (48, .p (eI q121.1))], [(9, (TBlock.cs (lat b_1.fBlocks t69)).map .p), (1000000, [.bptr 77 2 1000000, .vec 110000 1 (5 + 1) (q121.2.map eU)])]⟩) (fun m (q121 : Int × (List UInt8)) => format_write_l3 n b_1 t69 m q121.1 q121.2) (fun _ => rfl) (0, r74.2.2.fbuf) h2 (ghost_trans (ghost_ren 109000 110000 rfl rfl rfl rfl rfl) (gE rfl rfl)) ?_
   rintro m ⟨t86, f87⟩ h2
   replace h2 : format_write_l3 n b_1 t69 (m + 1) t86 f87 = some o119 := h2
   rw [format_write_l3] at h2
   refine nx 5 rfl (fD [49] h2 rfl (fun c88 h2 => ?_) fun c88 h2 => ?_)
   ·refine nx 6 rfl (oE h2 (fun _ => rfl) rfl rfl (fun _ => rfl) fun hk89 h2 => ?_)
    refine nx 6 rfl (bd h2 fun r90 e91 h2 => ?_)
    refine oK (strlit_Quote_ok _ (lat ((lat b_1.fBlocks t69).fLabels) t86) _ e91) rfl ⟨sr, trivial⟩ Tryz.call88 rfl (oC h2 rfl fun hk92 h2 => ?_)
    refine bd h2 fun r93 e94 h2 => mO rfl (op_callV [1000000] [110000] 111000 111001 (strings_Builder_WriteString_ok (TBuilder.mk f87) (([32] : Bytes) ++ r90) _ e94) rfl rfl rfl rfl rfl ⟨sr, sr, trivial⟩ rfl rfl ⟨⟨_, rfl, ⟨sr, sr, trivial⟩⟩, trivial⟩ rfl rfl rfl rfl rfl rfl rfl rfl Tryz.call79 rfl rfl ?_)
    refine nx 2 rfl (oA h2 rfl rfl fun hk95 h2 => ?_)
    exact nx 2 rfl (eX (t86 + 1, r93.2.2.fbuf) h2 (ghost_trans (ghost_ren 111000 110000 rfl rfl rfl rfl rfl) (gE rfl rfl)))
   exact nx 2 rfl (eXi _ (oi h2).symm (gE rfl rfl))
  exact nx 2 rfl (eXi _ (oi h1).symm (gE rfl rfl))
 refine lG (fun (q122 : Int × (List UInt8)) => ⟨[(0, .ptr 1000000 0), (2, .p (eS indent_2)), (4, .ptr 4 0), (13, .p (eL eTAttribute b_1.fAttrs)), (14, .p (eI (b_1.fAttrs.length : Int))), (15, .p (eI q122.1))], [(4, (TBody.cs b_1).map .p), (1000000, [.bptr 77 2 1000000, .vec 900000 1 (5 + 1) (q122.2.map eU)])]⟩) (fun m (q122 : Int × (List UInt8)) => format_write_l1 n b_1 indent_2 m q122.1 q122.2) (fun _ => rfl) (0, w_0.fbuf) h1 (gE rfl rfl) ?_
 rintro m ⟨t14, f15⟩ h1
 replace h1 : format_write_l1 n b_1 indent_2 (m + 1) t14 f15 = some o114 := h1
 rw [format_write_l1] at h1
 refine nx 5 rfl (fD [16] h1 rfl (fun c16 h1 => ?_) fun c16 h1 => ?_)
 ·refine nx 6 rfl (oE h1 TAttribute.cells_eq rfl rfl (fun _ => rfl) fun hk17 h1 => ?_)
  refine nx 4 rfl (cc' h1 fun hk18 h1 => ?_)
  refine cc' h1 fun hk19 h1 => bd h1 fun r20 e21 h1 => cc' h1 fun hk22 h1 => cc' h1 fun hk23 h1 => bd h1 fun r24 e25 h1 => mG (gE (t := ⟨[(0, .ptr 1000000 0), (2, .p (eS indent_2)), (4, .ptr 4 0), (7, .ptr 7 0), (13, .p (eL eTAttribute b_1.fAttrs)), (14, .p (eI (b_1.fAttrs.length : Int))), (15, .p (eI t14))], [(4, (TBody.cs b_1).map .p), (7, (TAttribute.cs (lat b_1.fAttrs t14)).map .p), (1000000, [.bptr 77 2 1000000, .vec 900000 1 (5 + 1) (f15.map eU)])]⟩) rfl rfl) (mS ⟨1, [11], (by2 (some (dropV [900000] 102000 102001)) none), (fun _ => [(0, .ptr 1000000 0), (2, .p (eS indent_2)), (4, .ptr 4 0), (7, .ptr 7 0), (13, .p (eL eTAttribute b_1.fAttrs)), (14, .p (eI (b_1.fAttrs.length : Int))), (15, .p (eI t14))]), (by2 ([(4, [.p (eL eTAttribute b_1.fAttrs), .p (eL eTBlock b_1.fBlocks)]), (7, [.p (eS ((lat b_1.fAttrs t14).fName)), .p (eI (((lat b_1.fAttrs t14).fExpr).fKind)), .p (eI (((lat b_1.fAttrs t14).fExpr).fOp)), .p (eS (((lat b_1.fAttrs t14).fExpr).fName)), .p (eS (((lat b_1.fAttrs t14).fExpr).fKey)), .p (eI ((((lat b_1.fAttrs t14).fExpr).fValue).fKind)), .p (eI ((((lat b_1.fAttrs t14).fExpr).fValue).fNum)), .p (eS ((((lat b_1.fAttrs t14).fExpr).fValue).fStr)), .p (eL eTValue ((((lat b_1.fAttrs t14).fExpr).fValue).fItems)), .p (eL eS ((((lat b_1.fAttrs t14).fExpr).fValue).fKeys)), .p (eL eTExpr (((lat b_1.fAttrs t14).fExpr).fKids)), .p (eI (((lat b_1.fAttrs t14).fExpr).fAt)), .p (eI ((lat b_1.fAttrs t14).fAt))]), (1000000, [.bptr 77 2 1000000, .vec 900000 1 (5 + 1) (f15.map eU)])]) ([(1000000, [.bptr 77 2 1000000, .vec 102000 1 (5 + 1) (r24.2.2.fbuf.map eU)]), (4, [.p (eL eTAttribute b_1.fAttrs), .p (eL eTBlock b_1.fBlocks)]), (7, [.p (eS ((lat b_1.fAttrs t14).fName)), .p (eI (((lat b_1.fAttrs t14).fExpr).fKind)), .p (eI (((lat b_1.fAttrs t14).fExpr).fOp)), .p (eS (((lat b_1.fAttrs t14).fExpr).fName)), .p (eS (((lat b_1.fAttrs t14).fExpr).fKey)), .p (eI ((((lat b_1.fAttrs t14).fExpr).fValue).fKind)), .p (eI ((((lat b_1.fAttrs t14).fExpr).fValue).fNum)), .p (eS ((((lat b_1.fAttrs t14).fExpr).fValue).fStr)), .p (eL eTValue ((((lat b_1.fAttrs t14).fExpr).fValue).fItems)), .p (eL eS ((((lat b_1.fAttrs t14).fExpr).fValue).fKeys)), .p (eL eTExpr (((lat b_1.fAttrs t14).fExpr).fKids)), .p (eI (((lat b_1.fAttrs t14).fExpr).fAt)), .p (eI ((lat b_1.fAttrs t14).fAt))])]))⟩ rfl rfl rfl ⟨rfl, rfl, rfl, rfl, rfl, rfl, rfl, trivial⟩ (lt1 ⟨rfl, rfl, rfl, rfl, rfl, rfl, rfl, trivial⟩) rfl rfl rfl rfl ?_)
  refine ds_pure (fun _ => .ptr 1000000 0) rfl rfl rfl (all2 rfl (fun _ => rfl)) (lt1 rfl) (stg_no rfl (stg_yes [(0, _)] ⟨.inl rfl, trivial⟩ (fun sl hsl K hK => one_op rfl (ok_move rfl rfl rfl (hsl _ _ rfl) hK)) stg_nil)) (ds_pure (fun _ => .p (eS indent_2)) rfl rfl rfl (all2 rfl (fun _ => rfl)) (lt1 rfl) (stg_yes [(2, _)] ⟨.inl rfl, trivial⟩ (fun sl hsl K hK => one_op rfl (ok_move rfl rfl rfl (hsl _ _ rfl) hK)) (stg_yes [(2, _)] ⟨.inl rfl, trivial⟩ (fun sl hsl K hK => one_op rfl (ok_move rfl rfl rfl (hsl _ _ rfl) hK)) stg_nil)) ?_)
  refine ds_pure (fun _ => .ptr 7 0) rfl rfl rfl (all2 rfl (fun _ => rfl)) (lt1 rfl) (stg_yes [(7, _)] ⟨.inl rfl, trivial⟩ (fun sl hsl K hK => one_op rfl (ok_fieldAddrP rfl rfl rfl rfl rfl rfl rfl rfl (hsl _ _ rfl) hK)) (stg_yes [(7, _)] ⟨.inl rfl, trivial⟩ (fun sl hsl K hK => one_op rfl (ok_fieldAddrP rfl rfl rfl rfl rfl rfl rfl rfl (hsl _ _ rfl) hK)) stg_nil)) (ds_pure (fun _ => .p (eS ((lat b_1.fAttrs t14).fName))) rfl rfl rfl (all2 rfl (fun _ => rfl)) (lt1 rfl) (stg_yes [(21, _)] ⟨.inr ⟨2, _, rfl, rfl, rfl⟩, trivial⟩ (fun sl hsl K hK => one_op rfl (ok_loadP1 rfl rfl rfl rfl rfl (hsl _ _ rfl) rfl rfl hK)) (stg_yes [(21, _)] ⟨.inr ⟨2, _, rfl, rfl, rfl⟩, trivial⟩ (fun sl hsl K hK => one_op rfl (ok_loadP1 rfl rfl rfl rfl rfl (hsl _ _ rfl) rfl rfl hK)) stg_nil)) ?_)
  refine ds_pure (fun _ => .p (eS (indent_2 ++ ((lat b_1.fAttrs t14).fName)))) rfl rfl rfl (all2 rfl (fun _ => rfl)) (lt1 rfl) (stg_yes [(20, _), (22, _)] ⟨.inr ⟨1, _, rfl, rfl, rfl⟩, .inr ⟨3, _, rfl, rfl, rfl⟩, trivial⟩ (fun sl hsl K hK => one_op rfl (ok_concat rfl rfl rfl (hsl _ _ rfl) (hsl _ _ rfl) hk18 hK)) (stg_yes [(20, _), (22, _)] ⟨.inr ⟨1, _, rfl, rfl, rfl⟩, .inr ⟨3, _, rfl, rfl, rfl⟩, trivial⟩ (fun sl hsl K hK => one_op rfl (ok_concat rfl rfl rfl (hsl _ _ rfl) (hsl _ _ rfl) hk18 hK)) stg_nil)) (ds_pure (fun _ => .p (eS ((indent_2 ++ ((lat b_1.fAttrs t14).fName)) ++ ([32, 61, 32] : Bytes)))) rfl rfl rfl (all2 rfl (fun _ => rfl)) (lt1 rfl) (stg_yes [(23, _)] ⟨.inr ⟨4, _, rfl, rfl, rfl⟩, trivial⟩ (fun sl hsl K hK => one_op rfl (ok_concat rfl rfl rfl (hsl _ _ rfl) rfl hk19 hK)) (stg_yes [(23, _)] ⟨.inr ⟨4, _, rfl, rfl, rfl⟩, trivial⟩ (fun sl hsl K hK => one_op rfl (ok_concat rfl rfl rfl (hsl _ _ rfl) rfl hk19 hK)) stg_nil)) ?_)
  refine ds_pure (fun _ => .ptr 7 1) rfl rfl rfl (all2 rfl (fun _ => rfl)) (lt1 rfl) (stg_yes [(7, _)] ⟨.inl rfl, trivial⟩ (fun sl hsl K hK => one_op rfl (ok_fieldAddrP rfl rfl rfl rfl rfl rfl rfl rfl (hsl _ _ rfl) hK)) (stg_yes [(7, _)] ⟨.inl rfl, trivial⟩ (fun sl hsl K hK => one_op rfl (ok_fieldAddrP rfl rfl rfl rfl rfl rfl rfl rfl (hsl _ _ rfl) hK)) stg_nil)) (ds_pure (fun _ => .p (.agg (TExpr.cs ((lat b_1.fAttrs t14).fExpr)))) rfl rfl rfl (all2 rfl (fun _ => rfl)) (lt1 rfl) (stg_yes [(25, _)] ⟨.inr ⟨6, _, rfl, rfl, rfl⟩, trivial⟩ (fun sl hsl K hK => one_op rfl (ok_loadPA rfl rfl rfl rfl rfl (hsl _ _ rfl) rfl rfl rfl hK)) (stg_yes [(25, _)] ⟨.inr ⟨6, _, rfl, rfl, rfl⟩, trivial⟩ (fun sl hsl K hK => one_op rfl (ok_loadPA rfl rfl rfl rfl rfl (hsl _ _ rfl) rfl rfl rfl hK)) stg_nil)) ?_)
  refine ds_pure (fun _ => .p (eS r20)) rfl rfl rfl (all2 rfl (fun _ => rfl)) (lt1 rfl) (stg_no rfl (stg_yes [(26, _)] ⟨.inr ⟨7, _, rfl, rfl, rfl⟩, trivial⟩ (fun sl hsl K hK => one_op rfl (ok_callP (format_Expr_ok _ ((lat b_1.fAttrs t14).fExpr) _ e21) rfl rfl rfl (args_cons (hsl _ _ rfl) args_nil) ⟨sr, trivial⟩ Tryz.call10 rfl hK)) stg_nil)) (ds_pure (fun _ => .p (eS (((indent_2 ++ ((lat b_1.fAttrs t14).fName)) ++ ([32, 61, 32] : Bytes)) ++ r20))) rfl rfl rfl (all2 rfl (fun _ => rfl)) (lt1 rfl) (stg_yes [(24, _), (27, _)] ⟨.inr ⟨5, _, rfl, rfl, rfl⟩, .inr ⟨8, _, rfl, rfl, rfl⟩, trivial⟩ (fun sl hsl K hK => one_op rfl (ok_concat rfl rfl rfl (hsl _ _ rfl) (hsl _ _ rfl) hk22 hK)) (stg_yes [(24, _), (27, _)] ⟨.inr ⟨5, _, rfl, rfl, rfl⟩, .inr ⟨8, _, rfl, rfl, rfl⟩, trivial⟩ (fun sl hsl K hK => one_op rfl (ok_concat rfl rfl rfl (hsl _ _ rfl) (hsl _ _ rfl) hk22 hK)) stg_nil)) ?_)
  refine ds_pure (fun _ => .p (eS ((((indent_2 ++ ((lat b_1.fAttrs t14).fName)) ++ ([32, 61, 32] : Bytes)) ++ r20) ++ ([10] : Bytes)))) rfl rfl rfl (all2 rfl (fun _ => rfl)) (lt1 rfl) (stg_no rfl (stg_yes [(28, _)] ⟨.inr ⟨9, _, rfl, rfl, rfl⟩, trivial⟩ (fun sl hsl K hK => one_op rfl (ok_concat rfl rfl rfl (hsl _ _ rfl) rfl hk23 hK)) stg_nil)) (ds_imp (fun _ => .tuple [.p (eI r24.1), .p (eE r24.2.1)]) [(19, _), (29, _)] rfl ⟨.inr ⟨0, _, rfl, rfl, rfl⟩, .inr ⟨10, _, rfl, rfl, rfl⟩, trivial⟩ rfl rfl (fun _ => rfl) (lt1 (fun h => absurd h (by decide))) (fun sl hsl K hK => one_op rfl (op_callV [1000000] [900000] 102000 102001 (strings_Builder_WriteString_ok (TBuilder.mk f15) ((((indent_2 ++ ((lat b_1.fAttrs t14).fName)) ++ ([32, 61, 32] : Bytes)) ++ r20) ++ ([10] : Bytes)) _ e25) rfl rfl rfl (args_cons (hsl _ _ rfl) (args_cons (hsl _ _ rfl) args_nil)) rfl ⟨sr, sr, trivial⟩ rfl rfl ⟨⟨_, rfl, ⟨sr, sr, trivial⟩⟩, trivial⟩ rfl rfl rfl rfl rfl rfl rfl rfl Tryz.call79 rfl rfl hK)) ?_)
  refine ds_nil (nx 2 rfl ?_)
  exact oA h1 rfl rfl fun hk26 h1 => nx 2 rfl (eX (t14 + 1, r24.2.2.fbuf) h1 (ghost_trans (ghost_ren 102000 900000 rfl rfl rfl rfl rfl) (gE rfl rfl)))
 exact nx 2 rfl (eXi _ (oi h1).symm (gE rfl rfl))
def format_Body (n : Nat) (b_0 : TBody) : Option Bytes :=
 (format_write n (TBuilder.mk []) b_0 ([] : Bytes)).bind fun r1 =>
 (strings_Builder_String (TBuilder.mk r1.fbuf)).bind fun r3 =>
 some r3.1
set_option maxHeartbeats 4000000 in
theorem format_Body_ok (n : Nat) (b_0 : TBody) (r : Bytes) (h0 : format_Body n b_0 = some r) : PCalls Tryz.prog 12 [.agg (TBody.cs b_0)] (· = .p (eS r)) := by
 unfold format_Body at h0
 refine pbodyA good Tryz.func12 rfl rfl rfl fun w0 => mP (fun v : Bytes => .p (eS v)) ?_
 refine nx 7 rfl (mO rfl (ok_allocB rfl rfl rfl rfl rfl rfl rfl ?_))
 refine nx 4 rfl (bd h0 fun r1 e2 h0 => ?_)
 refine mO rfl (op_callV [3] [890000] 101000 101001 (format_write_ok _ (TBuilder.mk []) b_0 ([] : Bytes) _ e2) rfl rfl rfl rfl rfl ⟨sr, sr, sr, trivial⟩ rfl rfl ⟨⟨_, rfl, ⟨sr, AV.sub_nilvec _ _ _, trivial⟩⟩, trivial⟩ rfl rfl rfl rfl rfl rfl rfl rfl Tryz.call46 rfl rfl ?_)
 refine nx 3 rfl (bd h0 fun r3 e4 h0 => ?_)
 refine mO rfl (op_callV [3] [101000] 102000 102000 (strings_Builder_String_ok (TBuilder.mk r1.fbuf) _ e4) rfl rfl rfl rfl rfl ⟨sr, trivial⟩ rfl rfl ⟨⟨_, rfl, ⟨sr, sr, trivial⟩⟩, trivial⟩ rfl rfl rfl rfl rfl rfl rfl rfl Tryz.call47 rfl rfl ?_)
 exact nx 3 rfl (mQ (oi h0) rfl (sr))
def slices_Equal_string_string_l1 (s1_0 : List Bytes) (s2_1 : List Bytes) : Nat → Int → Option (Unit ⊕ Bool)
 | 0, _ => none
 | m + 1, t8 =>
 if t8 < (s1_0.length : Int) then
  ck ((0 : Int) ≤ t8 ∧ t8 < (s1_0.length : Int)) <|
  ck ((0 : Int) ≤ t8 ∧ t8 < (s2_1.length : Int)) <|
  if lat s1_0 t8 = lat s2_1 t8 then
   ck (inR (t8 + 1)) <|
   slices_Equal_string_string_l1 s1_0 s2_1 m (t8 + 1)
  else
   some (.inr false)
 else
  some (.inl ())
def slices_Equal_string_string (n : Nat) (s1_0 : List Bytes) (s2_1 : List Bytes) : Option Bool :=
 if (s1_0.length : Int) = (s2_1.length : Int) then
  jn (slices_Equal_string_string_l1 s1_0 s2_1 n 0) fun q15 =>
  some true
 else
  some false
set_option maxHeartbeats 4000000 in
theorem slices_Equal_string_string_ok (n : Nat) (s1_0 : List Bytes) (s2_1 : List Bytes) (r : Bool) (h0 : slices_Equal_string_string n s1_0 s2_1 = some r) : PCalls Tryz.prog 56 [eL eS s1_0, eL eS s2_1] (· = .p (eB r)) := by
 unfold slices_Equal_string_string at h0
 refine pbodyA good Tryz.func56 rfl rfl rfl fun w0 => mP (fun v : Bool => .p (eB v)) ?_
 refine nx 8 rfl (oLl (f := eS) rfl rfl ?_)
 refine nx 1 rfl (oLl (f := eS) rfl rfl ?_)
 refine nx 2 rfl (fN [10] h0 rfl (fun c1 h0 => ?_) fun c1 h0 => ?_)
 ·refine nx 6 rfl (oLl (f := eS) rfl rfl ?_)
  refine nx 3 rfl ?_
  obtain ⟨o16, h1, hL0, hR0⟩ := jn_cut h0
  refine kEx 0 (fun v17 : Unit => o16 = .inl v17) (fun v17 => ⟨[], []⟩) (fun v17 hv => ?_) ?_
  ·have h0 := hL0 _ hv
   exact nx 6 rfl (mQ (oi h0) rfl (sr))
  refine lG (fun (q18 : Int) => ⟨[(0, .p (eL eS s1_0)), (1, .p (eL eS s2_1)), (12, .p (eI (s1_0.length : Int))), (13, .p (eI q18))], []⟩) (fun m (q18 : Int) => slices_Equal_string_string_l1 s1_0 s2_1 m q18) (fun _ => rfl) 0 h1 (gE rfl rfl) ?_
  rintro m t8 h1
  replace h1 : slices_Equal_string_string_l1 s1_0 s2_1 (m + 1) t8 = some o16 := h1
  rw [slices_Equal_string_string_l1] at h1
  refine nx 5 rfl (fD [14] h1 rfl (fun c9 h1 => ?_) fun c9 h1 => ?_)
  ·refine nx 10 rfl (cc' h1 fun hk10 h1 => ?_)
   refine cc' h1 fun hk11 h1 => mD [(0, .p (eL eS s1_0)), (1, .p (eL eS s2_1)), (5, .p (eI t8)), (12, .p (eI (s1_0.length : Int))), (13, .p (eI t8))] rfl ⟨rfl, rfl, rfl, rfl, rfl, trivial⟩ rfl (dR 2 rfl ?_)
   refine dq (.rptr [eS (lat s1_0 t8)]) [16,17] rfl (fun _ e _ q => one_op rfl (op_at (f := eS) (l := s1_0) (fun x => [eS x]) rfl rfl rfl rfl rfl rfl (e _ _ rfl) rfl (e _ _ rfl) hk10 (fun _ => rfl) (fun _ => rfl) q)) rfl (dR 3 rfl ?_)
   refine dq (.rptr [eS (lat s2_1 t8)]) [20,21] rfl (fun _ e _ q => one_op rfl (op_at (f := eS) (l := s2_1) (fun x => [eS x]) rfl rfl rfl rfl rfl rfl (e _ _ rfl) rfl (e _ _ rfl) hk11 (fun _ => rfl) (fun _ => rfl) q)) rfl (dR 1 rfl ?_)
   refine dq (.p (eB (!decide (lat s1_0 t8 = lat s2_1 t8)))) [19,23] rfl (fun _ e _ q => one_op rfl (ok_cmpS rfl rfl rfl (e _ _ rfl) (e _ _ rfl) rfl q)) rfl (dE rfl ?_)
   refine nx 1 rfl (fN [24] h1 rfl (fun c12 h1 => ?_) fun c12 h1 => ?_)
   ·refine nx 3 rfl (oA h1 rfl rfl fun hk13 h1 => ?_)
    exact nx 2 rfl (eX (t8 + 1) h1 (gE rfl rfl))
   exact nx 6 rfl (mQ (hR0 _ (oi h1).symm) rfl (sr))
  exact nx 2 rfl (eXi _ (oi h1).symm (gE rfl rfl))
 exact nx 6 rfl (mQ (oi h0) rfl (sr))
def slices_EqualFunc_api_Value_api_Value_api_Value_api_Value_l1 (s1_0 : List TValue) (s2_1 : List TValue) (eq_2 : TValue → TValue → Option Bool) : Nat → Int → Option (Unit ⊕ Bool)
 | 0, _ => none
 | m + 1, t10 =>
 if t10 < (s1_0.length : Int) then
  ck ((0 : Int) ≤ t10 ∧ t10 < (s1_0.length : Int)) <|
  ck ((0 : Int) ≤ t10 ∧ t10 < (s2_1.length : Int)) <|
  (eq_2 (lat s1_0 t10) (lat s2_1 t10)).bind fun r14 =>
  if (!r14) = true then
   some (.inr false)
  else
   ck (inR (t10 + 1)) <|
   slices_EqualFunc_api_Value_api_Value_api_Value_api_Value_l1 s1_0 s2_1 eq_2 m (t10 + 1)
 else
  some (.inl ())
def slices_EqualFunc_api_Value_api_Value_api_Value_api_Value (n : Nat) (s1_0 : List TValue) (s2_1 : List TValue) (eq_2 : TValue → TValue → Option Bool) : Option Bool :=
 if (s1_0.length : Int) = (s2_1.length : Int) then
  jn (slices_EqualFunc_api_Value_api_Value_api_Value_api_Value_l1 s1_0 s2_1 eq_2 n 0) fun q19 =>
  some true
 else
  some false
set_option maxHeartbeats 4000000 in
theorem slices_EqualFunc_api_Value_api_Value_api_Value_api_Value_ok (n : Nat) (s1_0 : List TValue) (s2_1 : List TValue) (eq_2 : TValue → TValue → Option Bool) (F_eq_2 : FuncId) (C_eq_2 : List AV) (K_eq_2 : AV.mapA.go (fun _ => none) C_eq_2 = some C_eq_2) (E_eq_2 : ∀ vs w, (callFunc F_eq_2 vs).run Tryz.prog w = .ok (.enter F_eq_2 vs) w) (H_eq_2 : ∀ (x0 : TValue) (x1 : TValue) r, eq_2 x0 x1 = some r → QCalls Tryz.prog F_eq_2 ([.p (.agg (TValue.cs x0)), .p (.agg (TValue.cs x1))] ++ C_eq_2) (· = .p (eB r))) (r : Bool) (h0 : slices_EqualFunc_api_Value_api_Value_api_Value_api_Value n s1_0 s2_1 eq_2 = some r) : QCalls Tryz.prog 91 [.p (eL eTValue s1_0), .p (eL eTValue s2_1), .func (.func F_eq_2) C_eq_2] (· = .p (eB r)) := by
 unfold slices_EqualFunc_api_Value_api_Value_api_Value_api_Value at h0
 refine qbodyA good Tryz.func91 rfl rfl rfl fun w0 => mP (fun v : Bool => .p (eB v)) ?_
 refine nx 8 rfl (oLl (f := eTValue) rfl rfl ?_)
 refine nx 1 rfl (oLl (f := eTValue) rfl rfl ?_)
 refine nx 2 rfl (fN [14] h0 rfl (fun c1 h0 => ?_) fun c1 h0 => ?_)
 ·refine nx 6 rfl (oLl (f := eTValue) rfl rfl ?_)
  refine nx 3 rfl ?_
  obtain ⟨o20, h1, hL0, hR0⟩ := jn_cut h0
  refine kEx 0 (fun v21 : Unit => o20 = .inl v21) (fun v21 => ⟨[], []⟩) (fun v21 hv => ?_) ?_
  ·have h0 := hL0 _ hv
   exact nx 6 rfl (mQ (oi h0) rfl (sr))
  refine lG (fun (q22 : Int) => ⟨[(1, .p (eL eTValue s2_1)), (2, .func (.func F_eq_2) C_eq_2), (15, .p (eL eTValue s1_0)), (16, .p (eI (s1_0.length : Int))), (17, .p (eI q22))], []⟩) (fun m (q22 : Int) => slices_EqualFunc_api_Value_api_Value_api_Value_api_Value_l1 s1_0 s2_1 eq_2 m q22) (fun _ => rfl) 0 h1 (gE rfl rfl) ?_
  rintro m t10 h1
  replace h1 : slices_EqualFunc_api_Value_api_Value_api_Value_api_Value_l1 s1_0 s2_1 eq_2 (m + 1) t10 = some o20 := h1
  rw [slices_EqualFunc_api_Value_api_Value_api_Value_api_Value_l1] at h1
  refine nx 5 rfl (fD [18] h1 rfl (fun c11 h1 => ?_) fun c11 h1 => ?_)
  ·refine nx 7 rfl (oE h1 TValue.cells_eq rfl rfl (fun _ => rfl) fun hk12 h1 => ?_)
   refine nx 9 rfl (oE h1 TValue.cells_eq rfl rfl (fun _ => rfl) fun hk13 h1 => ?_)
   refine nx 9 rfl (bd h1 fun r14 e15 h1 => ?_)
   refine mG (gFn 2 C_eq_2 rfl (by simp only [demL_cap K_eq_2])) (mG (gFn 26 C_eq_2 rfl (by simp only [demL_cap K_eq_2])) ?_)
   refine mO rfl (ok_callF (q := [.p (.agg (TValue.cs (lat s1_0 t10))), .p (.agg (TValue.cs (lat s2_1 t10)))]) (H_eq_2 (lat s1_0 t10) (lat s2_1 t10) _ e15) rfl rfl rfl rfl K_eq_2 rfl rfl ⟨sr, sr, trivial⟩ E_eq_2 rfl ?_)
   refine nx 2 rfl (fB [30] h1 rfl (fun c16 h1 => ?_) fun c16 h1 => ?_)
   ·exact nx 6 rfl (mQ (hR0 _ (oi h1).symm) rfl (sr))
   refine nx 3 rfl (oA h1 rfl rfl fun hk17 h1 => ?_)
   exact nx 2 rfl (eX (t10 + 1) h1 (gE rfl rfl))
  exact nx 2 rfl (eXi _ (oi h1).symm (gE rfl rfl))
 exact nx 6 rfl (mQ (oi h0) rfl (sr))
def value_Equal : Nat → TValue → TValue → Option Bool
 | 0, _, _ => none
 | n + 1, a_0, b_1 =>
 (
   if a_0.fKind = b_1.fKind then
    if a_0.fNum = b_1.fNum then
     if a_0.fStr = b_1.fStr then
      (slices_Equal_string_string n a_0.fKeys b_1.fKeys).bind fun r4 =>
      if r4 = true then
       (slices_EqualFunc_api_Value_api_Value_api_Value_api_Value n a_0.fItems b_1.fItems (fun x0 x1 => (value_Equal n) x0 x1)).bind fun r8 =>
       some r8
      else
       some false
     else
      some false
    else
     some false
   else
    some false
  : Option Bool).bind fun t10 =>
 some t10
set_option maxHeartbeats 4000000 in
theorem value_Equal_ok (n : Nat) : ∀ (a_0 : TValue) (b_1 : TValue) (r : Bool), value_Equal n a_0 b_1 = some r → PCalls Tryz.prog 49 [.agg (TValue.cs a_0), .agg (TValue.cs b_1)] (· = .p (eB r)) := by
 induction n with
 | zero => intro a_0 b_1 r h0; cases h0
 | succ n ih =>
 have ih_value_Equal_ok := ih
 intro a_0 b_1 r h0
 rw [value_Equal] at h0
 refine pbodyA good Tryz.func49 rfl rfl rfl fun w0 => mP (fun v : Bool => .p (eB v)) ?_
 refine nx 7 rfl (bd h0 fun o12 h1 h0 => ?_)
 refine kN o12 (fun v13 => ⟨[(4, .p (eB v13))], []⟩) ?_ ?_
 ·exact nx 2 rfl (mQ (oi h0) rfl (sr))
 refine nx 7 rfl (fD [9, 10] h1 rfl (fun c1 h1 => ?_) fun c1 h1 => ?_)
 ·refine nx 7 rfl (fD [15, 16, 17] h1 rfl (fun c2 h1 => ?_) fun c2 h1 => ?_)
  ·refine nx 4 rfl (oS rfl rfl ?_)
   refine nx 2 rfl (fD [22, 23, 24] h1 rfl (fun c3 h1 => ?_) fun c3 h1 => ?_)
   ·refine nx 4 rfl (bd h1 fun r4 e5 h1 => ?_)
    refine oK (slices_Equal_string_string_ok _ a_0.fKeys b_1.fKeys _ e5) rfl ⟨sr, sr, trivial⟩ Tryz.call56 rfl (nx 2 rfl ?_)
    refine fB [29, 30, 31] h1 rfl (fun c6 h1 => ?_) fun c6 h1 => ?_
    ·refine nx 4 rfl (bd h1 fun r8 e9 h1 => ?_)
     refine mO rfl (ok_callQ (slices_EqualFunc_api_Value_api_Value_api_Value_api_Value_ok _ a_0.fItems b_1.fItems (fun x0 x1 => (value_Equal n) x0 x1) 49 [] rfl Tryz.call49 (fun x0 x1 r h => (ih_value_Equal_ok x0 x1 r h).q) _ e9) rfl rfl rfl rfl (mapAgo_cons rfl (mapAgo_cons rfl (mapAgo_cons (mapA_func rfl) mapAgo_nil))) ⟨sr, sr, sr, trivial⟩ Tryz.call91 rfl ?_)
     exact nx 3 rfl (eX _ (oi h1).symm (gE rfl rfl))
    exact nx 8 rfl (eX _ (oi h1).symm (gE rfl rfl))
   exact nx 15 rfl (eX _ (oi h1).symm (gE rfl rfl))
  exact nx 22 rfl (eX _ (oi h1).symm (gE rfl rfl))
 exact nx 29 rfl (eX _ (oi h1).symm (gE rfl rfl))
def slices_EqualFunc_api_Expr_api_Expr_api_Expr_api_Expr_l1 (s1_0 : List TExpr) (s2_1 : List TExpr) (eq_2 : TExpr → TExpr → Option Bool) : Nat → Int → Option (Unit ⊕ Bool)
 | 0, _ => none
 | m + 1, t10 =>
 if t10 < (s1_0.length : Int) then
  ck ((0 : Int) ≤ t10 ∧ t10 < (s1_0.length : Int)) <|
  ck ((0 : Int) ≤ t10 ∧ t10 < (s2_1.length : Int)) <|
  (eq_2 (lat s1_0 t10) (lat s2_1 t10)).bind fun r14 =>
  if (!r14) = true then
   some (.inr false)
  else
   ck (inR (t10 + 1)) <|
   slices_EqualFunc_api_Expr_api_Expr_api_Expr_api_Expr_l1 s1_0 s2_1 eq_2 m (t10 + 1)
 else
  some (.inl ())
def slices_EqualFunc_api_Expr_api_Expr_api_Expr_api_Expr (n : Nat) (s1_0 : List TExpr) (s2_1 : List TExpr) (eq_2 : TExpr → TExpr → Option Bool) : Option Bool :=
 if (s1_0.length : Int) = (s2_1.length : Int) then
  jn (slices_EqualFunc_api_Expr_api_Expr_api_Expr_api_Expr_l1 s1_0 s2_1 eq_2 n 0) fun q19 =>
  some true
 else
  some false
set_option maxHeartbeats 4000000 in
theorem slices_EqualFunc_api_Expr_api_Expr_api_Expr_api_Expr_ok (n : Nat) (s1_0 : List TExpr) (s2_1 : List TExpr) (eq_2 : TExpr → TExpr → Option Bool) (F_eq_2 : FuncId) (C_eq_2 : List AV) (K_eq_2 : AV.mapA.go (fun _ => none) C_eq_2 = some C_eq_2) (E_eq_2 : ∀ vs w, (callFunc F_eq_2 vs).run Tryz.prog w = .ok (.enter F_eq_2 vs) w) (H_eq_2 : ∀ (x0 : TExpr) (x1 : TExpr) r, eq_2 x0 x1 = some r → QCalls Tryz.prog F_eq_2 ([.p (.agg (TExpr.cs x0)), .p (.agg (TExpr.cs x1))] ++ C_eq_2) (· = .p (eB r))) (r : Bool) (h0 : slices_EqualFunc_api_Expr_api_Expr_api_Expr_api_Expr n s1_0 s2_1 eq_2 = some r) : QCalls Tryz.prog 50 [.p (eL eTExpr s1_0), .p (eL eTExpr s2_1), .func (.func F_eq_2) C_eq_2] (· = .p (eB r)) := by
 unfold slices_EqualFunc_api_Expr_api_Expr_api_Expr_api_Expr at h0
 refine qbodyA good Tryz.func50 rfl rfl rfl fun w0 => mP (fun v : Bool => .p (eB v)) ?_
 refine nx 8 rfl (oLl (f := eTExpr) rfl rfl ?_)
 refine nx 1 rfl (oLl (f := eTExpr) rfl rfl ?_)
 refine nx 2 rfl (fN [14] h0 rfl (fun c1 h0 => ?_) fun c1 h0 => ?_)
 ·refine nx 6 rfl (oLl (f := eTExpr) rfl rfl ?_)
  refine nx 3 rfl ?_
  obtain ⟨o20, h1, hL0, hR0⟩ := jn_cut h0
  refine kEx 0 (fun v21 : Unit => o20 = .inl v21) (fun v21 => ⟨[], []⟩) (fun v21 hv => ?_) ?_
  ·have h0 := hL0 _ hv
   exact nx 6 rfl (mQ (oi h0) rfl (sr))
  refine lG (fun (q22 : Int) => ⟨[(1, .p (eL eTExpr s2_1)), (2, .func (.func F_eq_2) C_eq_2), (15, .p (eL eTExpr s1_0)), (16, .p (eI (s1_0.length : Int))), (17, .p (eI q22))], []⟩) (fun m (q22 : Int) => slices_EqualFunc_api_Expr_api_Expr_api_Expr_api_Expr_l1 s1_0 s2_1 eq_2 m q22) (fun _ => rfl) 0 h1 (gE rfl rfl) ?_
  rintro m t10 h1
  replace h1 : slices_EqualFunc_api_Expr_api_Expr_api_Expr_api_Expr_l1 s1_0 s2_1 eq_2 (m + 1) t10 = some o20 := h1
  rw [slices_EqualFunc_api_Expr_api_Expr_api_Expr_api_Expr_l1] at h1
  refine nx 5 rfl (fD [18] h1 rfl (fun c11 h1 => ?_) fun c11 h1 => ?_)
  ·refine nx 7 rfl (oE h1 TExpr.cells_eq rfl rfl (fun _ => rfl) fun hk12 h1 => ?_)
   refine nx 9 rfl (oE h1 TExpr.cells_eq rfl rfl (fun _ => rfl) fun hk13 h1 => ?_)
   refine nx 9 rfl (bd h1 fun r14 e15 h1 => ?_)
   refine mG (gFn 2 C_eq_2 rfl (by simp only [demL_cap K_eq_2])) (mG (gFn 26 C_eq_2 rfl (by simp only [demL_cap K_eq_2])) ?_)
   refine mO rfl (ok_callF (q := [.p (.agg (TExpr.cs (lat s1_0 t10))), .p (.agg (TExpr.cs (lat s2_1 t10)))]) (H_eq_2 (lat s1_0 t10) (lat s2_1 t10) _ e15) rfl rfl rfl rfl K_eq_2 rfl rfl ⟨sr, sr, trivial⟩ E_eq_2 rfl ?_)
   refine nx 2 rfl (fB [30] h1 rfl (fun c16 h1 => ?_) fun c16 h1 => ?_)
   ·exact nx 6 rfl (mQ (hR0 _ (oi h1).symm) rfl (sr))
   refine nx 3 rfl (oA h1 rfl rfl fun hk17 h1 => ?_)
   exact nx 2 rfl (eX (t10 + 1) h1 (gE rfl rfl))
  exact nx 2 rfl (eXi _ (oi h1).symm (gE rfl rfl))
 exact nx 6 rfl (mQ (oi h0) rfl (sr))
def format_EqualExpr : Nat → TExpr → TExpr → Option Bool
 | 0, _, _ => none
 | n + 1, a_0, b_1 =>
 (
   if a_0.fKind = b_1.fKind then
    if a_0.fOp = b_1.fOp then
     if a_0.fName = b_1.fName then
      if a_0.fKey = b_1.fKey then
       (value_Equal n a_0.fValue b_1.fValue).bind fun r5 =>
       if r5 = true then
        (slices_EqualFunc_api_Expr_api_Expr_api_Expr_api_Expr n a_0.fKids b_1.fKids (fun x0 x1 => (format_EqualExpr n) x0 x1)).bind fun r9 =>
        some r9
       else
        some false
      else
       some false
     else
      some false
    else
     some false
   else
    some false
  : Option Bool).bind fun t11 =>
 some t11
set_option maxHeartbeats 4000000 in
theorem format_EqualExpr_ok (n : Nat) : ∀ (a_0 : TExpr) (b_1 : TExpr) (r : Bool), format_EqualExpr n a_0 b_1 = some r → PCalls Tryz.prog 14 [.agg (TExpr.cs a_0), .agg (TExpr.cs b_1)] (· = .p (eB r)) := by
 induction n with
 | zero => intro a_0 b_1 r h0; cases h0
 | succ n ih =>
 have ih_format_EqualExpr_ok := ih
 intro a_0 b_1 r h0
 rw [format_EqualExpr] at h0
 refine pbodyA good Tryz.func14 rfl rfl rfl fun w0 => mP (fun v : Bool => .p (eB v)) ?_
 refine nx 7 rfl (bd h0 fun o13 h1 h0 => ?_)
 refine kN o13 (fun v14 => ⟨[(4, .p (eB v14))], []⟩) ?_ ?_
 ·exact nx 2 rfl (mQ (oi h0) rfl (sr))
 refine nx 7 rfl (fD [9, 10] h1 rfl (fun c1 h1 => ?_) fun c1 h1 => ?_)
 ·refine nx 7 rfl (fD [15, 16, 17] h1 rfl (fun c2 h1 => ?_) fun c2 h1 => ?_)
  ·refine nx 4 rfl (oS rfl rfl ?_)
   refine nx 2 rfl (fD [22, 23, 24] h1 rfl (fun c3 h1 => ?_) fun c3 h1 => ?_)
   ·refine nx 4 rfl (oS rfl rfl ?_)
    refine nx 2 rfl (fD [29, 30, 31] h1 rfl (fun c4 h1 => ?_) fun c4 h1 => ?_)
    ·refine nx 4 rfl (bd h1 fun r5 e6 h1 => ?_)
     refine oK (value_Equal_ok _ a_0.fValue b_1.fValue _ e6) rfl ⟨sr, sr, trivial⟩ Tryz.call49 rfl (nx 2 rfl ?_)
     refine fB [36, 37, 38] h1 rfl (fun c7 h1 => ?_) fun c7 h1 => ?_
     ·refine nx 4 rfl (bd h1 fun r9 e10 h1 => ?_)
      refine mO rfl (ok_callQ (slices_EqualFunc_api_Expr_api_Expr_api_Expr_api_Expr_ok _ a_0.fKids b_1.fKids (fun x0 x1 => (format_EqualExpr n) x0 x1) 14 [] rfl Tryz.call14 (fun x0 x1 r h => (ih_format_EqualExpr_ok x0 x1 r h).q) _ e10) rfl rfl rfl rfl (mapAgo_cons rfl (mapAgo_cons rfl (mapAgo_cons (mapA_func rfl) mapAgo_nil))) ⟨sr, sr, sr, trivial⟩ Tryz.call50 rfl ?_)
      exact nx 3 rfl (eX _ (oi h1).symm (gE rfl rfl))
     exact nx 8 rfl (eX _ (oi h1).symm (gE rfl rfl))
    exact nx 15 rfl (eX _ (oi h1).symm (gE rfl rfl))
   exact nx 22 rfl (eX _ (oi h1).symm (gE rfl rfl))
  exact nx 29 rfl (eX _ (oi h1).symm (gE rfl rfl))
 exact nx 36 rfl (eX _ (oi h1).symm (gE rfl rfl))
def slices_EqualFunc_api_Attribute_api_Attribute_api_Attribute_api_Attribute_l1 (s1_0 : List TAttribute) (s2_1 : List TAttribute) (eq_2 : TAttribute → TAttribute → Option Bool) : Nat → Int → Option (Unit ⊕ Bool)
 | 0, _ => none
 | m + 1, t10 =>
 if t10 < (s1_0.length : Int) then
  ck ((0 : Int) ≤ t10 ∧ t10 < (s1_0.length : Int)) <|
  ck ((0 : Int) ≤ t10 ∧ t10 < (s2_1.length : Int)) <|
  (eq_2 (lat s1_0 t10) (lat s2_1 t10)).bind fun r14 =>
  if (!r14) = true then
   some (.inr false)
  else
   ck (inR (t10 + 1)) <|
   slices_EqualFunc_api_Attribute_api_Attribute_api_Attribute_api_Attribute_l1 s1_0 s2_1 eq_2 m (t10 + 1)
 else
  some (.inl ())
def slices_EqualFunc_api_Attribute_api_Attribute_api_Attribute_api_Attribute (n : Nat) (s1_0 : List TAttribute) (s2_1 : List TAttribute) (eq_2 : TAttribute → TAttribute → Option Bool) : Option Bool :=
 if (s1_0.length : Int) = (s2_1.length : Int) then
  jn (slices_EqualFunc_api_Attribute_api_Attribute_api_Attribute_api_Attribute_l1 s1_0 s2_1 eq_2 n 0) fun q19 =>
  some true
 else
  some false
set_option maxHeartbeats 4000000 in
theorem slices_EqualFunc_api_Attribute_api_Attribute_api_Attribute_api_Attribute_ok (n : Nat) (s1_0 : List TAttribute) (s2_1 : List TAttribute) (eq_2 : TAttribute → TAttribute → Option Bool) (F_eq_2 : FuncId) (C_eq_2 : List AV) (K_eq_2 : AV.mapA.go (fun _ => none) C_eq_2 = some C_eq_2) (E_eq_2 : ∀ vs w, (callFunc F_eq_2 vs).run Tryz.prog w = .ok (.enter F_eq_2 vs) w) (H_eq_2 : ∀ (x0 : TAttribute) (x1 : TAttribute) r, eq_2 x0 x1 = some r → QCalls Tryz.prog F_eq_2 ([.p (.agg (TAttribute.cs x0)), .p (.agg (TAttribute.cs x1))] ++ C_eq_2) (· = .p (eB r))) (r : Bool) (h0 : slices_EqualFunc_api_Attribute_api_Attribute_api_Attribute_api_Attribute n s1_0 s2_1 eq_2 = some r) : QCalls Tryz.prog 52 [.p (eL eTAttribute s1_0), .p (eL eTAttribute s2_1), .func (.func F_eq_2) C_eq_2] (· = .p (eB r)) := by
 unfold slices_EqualFunc_api_Attribute_api_Attribute_api_Attribute_api_Attribute at h0
 refine qbodyA good Tryz.func52 rfl rfl rfl fun w0 => mP (fun v : Bool => .p (eB v)) ?_
 refine nx 8 rfl (oLl (f := eTAttribute) rfl rfl ?_)
 refine nx 1 rfl (oLl (f := eTAttribute) rfl rfl ?_)
 refine nx 2 rfl (fN [14] h0 rfl (fun c1 h0 => ?_) fun c1 h0 => ?_)
 ·refine nx 6 rfl (oLl (f := eTAttribute) rfl rfl ?_)
  refine nx 3 rfl ?_
  obtain ⟨o20, h1, hL0, hR0⟩ := jn_cut h0
  refine kEx 0 (fun v21 : Unit => o20 = .inl v21) (fun v21 => ⟨[], []⟩) (fun v21 hv => ?_) ?_
  ·have h0 := hL0 _ hv
   exact nx 6 rfl (mQ (oi h0) rfl (sr))
  refine lG (fun (q22 : Int) => ⟨[(1, .p (eL eTAttribute s2_1)), (2, .func (.func F_eq_2) C_eq_2), (15, .p (eL eTAttribute s1_0)), (16, .p (eI (s1_0.length : Int))), (17, .p (eI q22))], []⟩) (fun m (q22 : Int) => slices_EqualFunc_api_Attribute_api_Attribute_api_Attribute_api_Attribute_l1 s1_0 s2_1 eq_2 m q22) (fun _ => rfl) 0 h1 (gE rfl rfl) ?_
  rintro m t10 h1
  replace h1 : slices_EqualFunc_api_Attribute_api_Attribute_api_Attribute_api_Attribute_l1 s1_0 s2_1 eq_2 (m + 1) t10 = some o20 := h1
  rw [slices_EqualFunc_api_Attribute_api_Attribute_api_Attribute_api_Attribute_l1] at h1
  refine nx 5 rfl (fD [18] h1 rfl (fun c11 h1 => ?_) fun c11 h1 => ?_)
  ·refine nx 7 rfl (oE h1 TAttribute.cells_eq rfl rfl (fun _ => rfl) fun hk12 h1 => ?_)
   refine nx 9 rfl (oE h1 TAttribute.cells_eq rfl rfl (fun _ => rfl) fun hk13 h1 => ?_)
   refine nx 9 rfl (bd h1 fun r14 e15 h1 => ?_)
   refine mG (gFn 2 C_eq_2 rfl (by simp only [demL_cap K_eq_2])) (mG (gFn 26 C_eq_2 rfl (by simp only [demL_cap K_eq_2])) ?_)
   refine mO rfl (ok_callF (q := [.p (.agg (TAttribute.cs (lat s1_0 t10))), .p (.agg (TAttribute.cs (lat s2_1 t10)))]) (H_eq_2 (lat s1_0 t10) (lat s2_1 t10) _ e15) rfl rfl rfl rfl K_eq_2 rfl rfl ⟨sr, sr, trivial⟩ E_eq_2 rfl ?_)
   refine nx 2 rfl (fB [30] h1 rfl (fun c16 h1 => ?_) fun c16 h1 => ?_)
   ·exact nx 6 rfl (mQ (hR0 _ (oi h1).symm) rfl (sr))
   refine nx 3 rfl (oA h1 rfl rfl fun hk17 h1 => ?_)
   exact nx 2 rfl (eX (t10 + 1) h1 (gE rfl rfl))
  exact nx 2 rfl (eXi _ (oi h1).symm (gE rfl rfl))
 exact nx 6 rfl (mQ (oi h0) rfl (sr))
def format_EqualBody_1 (n : Nat) (x_0 : TAttribute) (y_1 : TAttribute) : Option Bool :=
 (
   if x_0.fName = y_1.fName then
    (format_EqualExpr n x_0.fExpr y_1.fExpr).bind fun r2 =>
    some r2
   else
    some false
  : Option Bool).bind fun t4 =>
 some t4
set_option maxHeartbeats 4000000 in
theorem format_EqualBody_1_ok (n : Nat) (x_0 : TAttribute) (y_1 : TAttribute) (r : Bool) (h0 : format_EqualBody_1 n x_0 y_1 = some r) : PCalls Tryz.prog 53 [.agg (TAttribute.cs x_0), .agg (TAttribute.cs y_1)] (· = .p (eB r)) := by
 unfold format_EqualBody_1 at h0
 refine pbodyA good Tryz.func53 rfl rfl rfl fun w0 => mP (fun v : Bool => .p (eB v)) ?_
 refine nx 7 rfl (bd h0 fun o6 h1 h0 => ?_)
 refine kN o6 (fun v7 => ⟨[(4, .p (eB v7))], []⟩) ?_ ?_
 ·exact nx 2 rfl (mQ (oi h0) rfl (sr))
 refine nx 5 rfl (oS rfl rfl ?_)
 refine nx 1 rfl (fD [9, 10] h1 rfl (fun c1 h1 => ?_) fun c1 h1 => ?_)
 ·refine nx 4 rfl (bd h1 fun r2 e3 h1 => ?_)
  refine oK (format_EqualExpr_ok _ x_0.fExpr y_1.fExpr _ e3) rfl ⟨sr, sr, trivial⟩ Tryz.call14 rfl (nx 3 rfl ?_)
  exact eX _ (oi h1).symm (gE rfl rfl)
 exact nx 8 rfl (eX _ (oi h1).symm (gE rfl rfl))
def slices_EqualFunc_api_Block_api_Block_api_Block_api_Block_l1 (s1_0 : List TBlock) (s2_1 : List TBlock) (eq_2 : TBlock → TBlock → Option Bool) : Nat → Int → Option (Unit ⊕ Bool)
 | 0, _ => none
 | m + 1, t10 =>
 if t10 < (s1_0.length : Int) then
  ck ((0 : Int) ≤ t10 ∧ t10 < (s1_0.length : Int)) <|
  ck ((0 : Int) ≤ t10 ∧ t10 < (s2_1.length : Int)) <|
  (eq_2 (lat s1_0 t10) (lat s2_1 t10)).bind fun r14 =>
  if (!r14) = true then
   some (.inr false)
  else
   ck (inR (t10 + 1)) <|
   slices_EqualFunc_api_Block_api_Block_api_Block_api_Block_l1 s1_0 s2_1 eq_2 m (t10 + 1)
 else
  some (.inl ())
def slices_EqualFunc_api_Block_api_Block_api_Block_api_Block (n : Nat) (s1_0 : List TBlock) (s2_1 : List TBlock) (eq_2 : TBlock → TBlock → Option Bool) : Option Bool :=
 if (s1_0.length : Int) = (s2_1.length : Int) then
  jn (slices_EqualFunc_api_Block_api_Block_api_Block_api_Block_l1 s1_0 s2_1 eq_2 n 0) fun q19 =>
  some true
 else
  some false
set_option maxHeartbeats 4000000 in
theorem slices_EqualFunc_api_Block_api_Block_api_Block_api_Block_ok (n : Nat) (s1_0 : List TBlock) (s2_1 : List TBlock) (eq_2 : TBlock → TBlock → Option Bool) (F_eq_2 : FuncId) (C_eq_2 : List AV) (K_eq_2 : AV.mapA.go (fun _ => none) C_eq_2 = some C_eq_2) (E_eq_2 : ∀ vs w, (callFunc F_eq_2 vs).run Tryz.prog w = .ok (.enter F_eq_2 vs) w) (H_eq_2 : ∀ (x0 : TBlock) (x1 : TBlock) r, eq_2 x0 x1 = some r → QCalls Tryz.prog F_eq_2 ([.p (.agg (TBlock.cs x0)), .p (.agg (TBlock.cs x1))] ++ C_eq_2) (· = .p (eB r))) (r : Bool) (h0 : slices_EqualFunc_api_Block_api_Block_api_Block_api_Block n s1_0 s2_1 eq_2 = some r) : QCalls Tryz.prog 54 [.p (eL eTBlock s1_0), .p (eL eTBlock s2_1), .func (.func F_eq_2) C_eq_2] (· = .p (eB r)) := by
 unfold slices_EqualFunc_api_Block_api_Block_api_Block_api_Block at h0
 refine qbodyA good Tryz.func54 rfl rfl rfl fun w0 => mP (fun v : Bool => .p (eB v)) ?_
 refine nx 8 rfl (oLl (f := eTBlock) rfl rfl ?_)
 refine nx 1 rfl (oLl (f := eTBlock) rfl rfl ?_)
 refine nx 2 rfl (fN [14] h0 rfl (fun c1 h0 => ?_) fun c1 h0 => ?_)
 ·refine nx 6 rfl (oLl (f := eTBlock) rfl rfl ?_)
  refine nx 3 rfl ?_
  obtain ⟨o20, h1, hL0, hR0⟩ := jn_cut h0
  refine kEx 0 (fun v21 : Unit => o20 = .inl v21) (fun v21 => ⟨[], []⟩) (fun v21 hv => ?_) ?_
  ·have h0 := hL0 _ hv
   exact nx 6 rfl (mQ (oi h0) rfl (sr))
  refine lG (fun (q22 : Int) => ⟨[(1, .p (eL eTBlock s2_1)), (2, .func (.func F_eq_2) C_eq_2), (15, .p (eL eTBlock s1_0)), (16, .p (eI (s1_0.length : Int))), (17, .p (eI q22))], []⟩) (fun m (q22 : Int) => slices_EqualFunc_api_Block_api_Block_api_Block_api_Block_l1 s1_0 s2_1 eq_2 m q22) (fun _ => rfl) 0 h1 (gE rfl rfl) ?_
  rintro m t10 h1
  replace h1 : slices_EqualFunc_api_Block_api_Block_api_Block_api_Block_l1 s1_0 s2_1 eq_2 (m + 1) t10 = some o20 := h1
  rw [slices_EqualFunc_api_Block_api_Block_api_Block_api_Block_l1] at h1
  refine nx 5 rfl (fD [18] h1 rfl (fun c11 h1 => ?_) fun c11 h1 => ?_)
  ·refine nx 7 rfl (oE h1 TBlock.cells_eq rfl rfl (fun _ => rfl) fun hk12 h1 => ?_)
   refine nx 9 rfl (oE h1 TBlock.cells_eq rfl rfl (fun _ => rfl) fun hk13 h1 => ?_)
   refine nx 9 rfl (bd h1 fun r14 e15 h1 => ?_)
   refine mG (gFn 2 C_eq_2 rfl (by simp only [demL_cap K_eq_2])) (mG (gFn 26 C_eq_2 rfl (by simp only [demL_cap K_eq_2])) ?_)
   refine mO rfl (ok_callF (q := [.p (.agg (TBlock.cs (lat s1_0 t10))), .p (.agg (TBlock.cs (lat s2_1 t10)))]) (H_eq_2 (lat s1_0 t10) (lat s2_1 t10) _ e15) rfl rfl rfl rfl K_eq_2 rfl rfl ⟨sr, sr, trivial⟩ E_eq_2 rfl ?_)
   refine nx 2 rfl (fB [30] h1 rfl (fun c16 h1 => ?_) fun c16 h1 => ?_)
   ·exact nx 6 rfl (mQ (hR0 _ (oi h1).symm) rfl (sr))
   refine nx 3 rfl (oA h1 rfl rfl fun hk17 h1 => ?_)
   exact nx 2 rfl (eX (t10 + 1) h1 (gE rfl rfl))
  exact nx 2 rfl (eXi _ (oi h1).symm (gE rfl rfl))
 exact nx 6 rfl (mQ (oi h0) rfl (sr))
mutual
def format_EqualBody : Nat → TBody → TBody → Option Bool
 | 0, _, _ => none
 | n + 1, a_0, b_1 =>
 (
   (slices_EqualFunc_api_Attribute_api_Attribute_api_Attribute_api_Attribute n a_0.fAttrs b_1.fAttrs (fun x0 x1 => format_EqualBody_1 n x0 x1)).bind fun r2 =>
   if r2 = true then
    (slices_EqualFunc_api_Block_api_Block_api_Block_api_Block n a_0.fBlocks b_1.fBlocks (fun x0 x1 => (format_EqualBody_2 n) x0 x1)).bind fun r6 =>
    some r6
   else
    some false
  : Option Bool).bind fun t8 =>
 some t8
def format_EqualBody_2 : Nat → TBlock → TBlock → Option Bool
 | 0, _, _ => none
 | n + 1, x_0, y_1 =>
 (
   if x_0.fType = y_1.fType then
    (slices_Equal_string_string n x_0.fLabels y_1.fLabels).bind fun r2 =>
    if r2 = true then
     ((format_EqualBody n) x_0.fBody y_1.fBody).bind fun r5 =>
     some r5
    else
     some false
   else
    some false
  : Option Bool).bind fun t7 =>
 some t7
end
set_option maxHeartbeats 4000000 in
theorem format_EqualBody_all (n : Nat) : (∀ (a_0 : TBody) (b_1 : TBody) (r : Bool), format_EqualBody n a_0 b_1 = some r → PCalls Tryz.prog 16 [.agg (TBody.cs a_0), .agg (TBody.cs b_1)] (· = .p (eB r))) ∧ (∀ (x_0 : TBlock) (y_1 : TBlock) (r : Bool), format_EqualBody_2 n x_0 y_1 = some r → PCalls Tryz.prog 55 [.agg (TBlock.cs x_0), .agg (TBlock.cs y_1)] (· = .p (eB r))) := by
 induction n with
 | zero => exact ⟨(by intro a_0 b_1 r h0; cases h0), (by intro x_0 y_1 r h0; cases h0)⟩
 | succ n ih =>
 obtain ⟨ih_format_EqualBody_ok, ih_format_EqualBody_2_ok⟩ := ih
 refine ⟨?_, ?_⟩
 ·skip
  intro a_0 b_1 r h0
  rw [format_EqualBody] at h0
  refine pbodyA good Tryz.func16 rfl rfl rfl fun w0 => mP (fun v : Bool => .p (eB v)) ?_
  refine nx 7 rfl (bd h0 fun o10 h1 h0 => ?_)
  refine kN o10 (fun v11 => ⟨[(4, .p (eB v11))], []⟩) ?_ ?_
  ·exact nx 2 rfl (mQ (oi h0) rfl (sr))
  refine nx 5 rfl (bd h1 fun r2 e3 h1 => ?_)
  refine mO rfl (ok_callQ (slices_EqualFunc_api_Attribute_api_Attribute_api_Attribute_api_Attribute_ok _ a_0.fAttrs b_1.fAttrs (fun x0 x1 => format_EqualBody_1 n x0 x1) 53 [] rfl Tryz.call53 (fun x0 x1 r h => (format_EqualBody_1_ok _ x0 x1 r h).q) _ e3) rfl rfl rfl rfl (mapAgo_cons rfl (mapAgo_cons rfl (mapAgo_cons (mapA_func rfl) mapAgo_nil))) ⟨sr, sr, sr, trivial⟩ Tryz.call52 rfl ?_)
  refine nx 1 rfl (fB [9, 10] h1 rfl (fun c4 h1 => ?_) fun c4 h1 => ?_)
  ·refine nx 4 rfl (bd h1 fun r6 e7 h1 => ?_)
   refine mO rfl (ok_callQ (slices_EqualFunc_api_Block_api_Block_api_Block_api_Block_ok _ a_0.fBlocks b_1.fBlocks (fun x0 x1 => (format_EqualBody_2 n) x0 x1) 55 [] rfl Tryz.call55 (fun x0 x1 r h => (ih_format_EqualBody_2_ok x0 x1 r h).q) _ e7) rfl rfl rfl rfl (mapAgo_cons rfl (mapAgo_cons rfl (mapAgo_cons (mapA_func rfl) mapAgo_nil))) ⟨sr, sr, sr, trivial⟩ Tryz.call54 rfl ?_)
   exact nx 3 rfl (eX _ (oi h1).symm (gE rfl rfl))
  exact nx 8 rfl (eX _ (oi h1).symm (gE rfl rfl))
 ·skip
  intro x_0 y_1 r h0
  rw [format_EqualBody_2] at h0
  refine pbodyA good Tryz.func55 rfl rfl rfl fun w0 => mP (fun v : Bool => .p (eB v)) ?_
  refine nx 7 rfl (bd h0 fun o9 h1 h0 => ?_)
  refine kN o9 (fun v10 => ⟨[(4, .p (eB v10))], []⟩) ?_ ?_
  ·exact nx 2 rfl (mQ (oi h0) rfl (sr))
  refine nx 5 rfl (oS rfl rfl ?_)
  refine nx 1 rfl (fD [9, 10] h1 rfl (fun c1 h1 => ?_) fun c1 h1 => ?_)
  ·refine nx 4 rfl (bd h1 fun r2 e3 h1 => ?_)
   refine oK (slices_Equal_string_string_ok _ x_0.fLabels y_1.fLabels _ e3) rfl ⟨sr, sr, trivial⟩ Tryz.call56 rfl (nx 2 rfl ?_)
   refine fB [15, 16, 17] h1 rfl (fun c4 h1 => ?_) fun c4 h1 => ?_
   ·refine nx 4 rfl (bd h1 fun r5 e6 h1 => ?_)
    refine oK (ih_format_EqualBody_ok x_0.fBody y_1.fBody _ e6) rfl ⟨sr, sr, trivial⟩ Tryz.call16 rfl (nx 3 rfl ?_)
    exact eX _ (oi h1).symm (gE rfl rfl)
   exact nx 8 rfl (eX _ (oi h1).symm (gE rfl rfl))
  exact nx 15 rfl (eX _ (oi h1).symm (gE rfl rfl))
theorem format_EqualBody_ok (n : Nat) : ∀ (a_0 : TBody) (b_1 : TBody) (r : Bool), format_EqualBody n a_0 b_1 = some r → PCalls Tryz.prog 16 [.agg (TBody.cs a_0), .agg (TBody.cs b_1)] (· = .p (eB r)) := (format_EqualBody_all n).1
def law16_awake_1 (s_0 : Bytes) : Option TExpr :=
 some (TExpr.mk 3 0 s_0 ([] : Bytes) (TValue.mk 0 0 ([] : Bytes) [] []) [] 0)
set_option maxHeartbeats 4000000 in
theorem law16_awake_1_ok (s_0 : Bytes) (r : TExpr) (h0 : law16_awake_1 s_0 = some r) : PCalls Tryz.prog 29 [eS s_0] (· = .p (.agg (TExpr.cs r))) := by
 unfold law16_awake_1 at h0
 refine pbodyA good Tryz.func29 rfl rfl rfl fun w0 => mP (fun v : TExpr => .p (.agg (TExpr.cs v))) ?_
 exact nx 11 rfl (mQ (oi h0) rfl (sub_cells ⟨.inl rfl, .inl rfl, .inl rfl, .inl rfl, .inl rfl, .inl rfl, .inl rfl, .inr ⟨rfl, rfl⟩, .inr ⟨rfl, rfl⟩, .inr ⟨rfl, rfl⟩, .inl rfl, trivial⟩))
def law16_awake (n : Nat) : Option Bool :=
 ((fun x0 => law16_awake_1 x0) ([97] : Bytes)).bind fun r2 =>
 ((fun x0 => law16_awake_1 x0) ([98] : Bytes)).bind fun r4 =>
 ((fun x0 => law16_awake_1 x0) ([99] : Bytes)).bind fun r6 =>
 (
   (format_Expr n (TExpr.mk 7 13 ([] : Bytes) ([] : Bytes) (TValue.mk 0 0 ([] : Bytes) [] []) ([(TExpr.mk 7 11 ([] : Bytes) ([] : Bytes) (TValue.mk 0 0 ([] : Bytes) [] []) [r2, r4] 0), r6]) 0)).bind fun r8 =>
   if r8 = ([40, 97, 32, 43, 32, 98, 41, 32, 42, 32, 99] : Bytes) then
    (format_Expr n (TExpr.mk 2 0 ([] : Bytes) ([] : Bytes) (TValue.mk 0 0 ([] : Bytes) [] []) ([(TExpr.mk 1 0 ([] : Bytes) ([] : Bytes) (TValue.mk 3 0 ([120] : Bytes) [] []) [] 0)]) 0)).bind fun r11 =>
    if r11 = ([34, 36, 123, 34, 120, 34, 125, 34] : Bytes) then
     (format_Body n (TBody.mk ([(TAttribute.mk ([97] : Bytes) (TExpr.mk 7 11 ([] : Bytes) ([] : Bytes) (TValue.mk 0 0 ([] : Bytes) [] []) [r2, r4] 0) 0)]) ([(TBlock.mk ([98] : Bytes) ([([120] : Bytes)]) (TBody.mk [] []) 0)]))).bind fun r14 =>
     if r14 = ([97, 32, 61, 32, 97, 32, 43, 32, 98, 10, 98, 32, 34, 120, 34, 32, 123, 10, 125, 10] : Bytes) then
      (format_EqualExpr n (TExpr.mk 7 11 ([] : Bytes) ([] : Bytes) (TValue.mk 0 0 ([] : Bytes) [] []) [r2, r4] 0) (TExpr.mk 7 11 ([] : Bytes) ([] : Bytes) (TValue.mk 0 0 ([] : Bytes) [] []) [r2, r4] 0)).bind fun r17 =>
      if r17 = true then
       (format_EqualExpr n (TExpr.mk 7 11 ([] : Bytes) ([] : Bytes) (TValue.mk 0 0 ([] : Bytes) [] []) [r2, r4] 0) (TExpr.mk 7 13 ([] : Bytes) ([] : Bytes) (TValue.mk 0 0 ([] : Bytes) [] []) ([(TExpr.mk 7 11 ([] : Bytes) ([] : Bytes) (TValue.mk 0 0 ([] : Bytes) [] []) [r2, r4] 0), r6]) 0)).bind fun r20 =>
       if (!r20) = true then
        (format_EqualBody n (TBody.mk ([(TAttribute.mk ([97] : Bytes) (TExpr.mk 7 11 ([] : Bytes) ([] : Bytes) (TValue.mk 0 0 ([] : Bytes) [] []) [r2, r4] 0) 0)]) ([(TBlock.mk ([98] : Bytes) ([([120] : Bytes)]) (TBody.mk [] []) 0)])) (TBody.mk ([(TAttribute.mk ([97] : Bytes) (TExpr.mk 7 11 ([] : Bytes) ([] : Bytes) (TValue.mk 0 0 ([] : Bytes) [] []) [r2, r4] 0) 0)]) ([(TBlock.mk ([98] : Bytes) ([([120] : Bytes)]) (TBody.mk [] []) 0)]))).bind fun r23 =>
        if r23 = true then
         (format_EqualBody n (TBody.mk ([(TAttribute.mk ([97] : Bytes) (TExpr.mk 7 11 ([] : Bytes) ([] : Bytes) (TValue.mk 0 0 ([] : Bytes) [] []) [r2, r4] 0) 0)]) ([(TBlock.mk ([98] : Bytes) ([([120] : Bytes)]) (TBody.mk [] []) 0)])) (TBody.mk [] [])).bind fun r26 =>
         some (!r26)
        else
         some false
       else
        some false
      else
       some false
     else
      some false
    else
     some false
   else
    some false
  : Option Bool).bind fun t28 =>
 some t28
set_option maxHeartbeats 4000000 in
theorem law16_awake_ok (n : Nat) (r : Bool) (h0 : law16_awake n = some r) : PCalls Tryz.prog 9 [] (· = .p (eB r)) := by
 unfold law16_awake at h0
 refine pbodyA good Tryz.func9 rfl rfl rfl fun w0 => mP (fun v : Bool => .p (eB v)) ?_
 refine nx 11 rfl (bd h0 fun r2 e3 h0 => ?_)
 refine mO rfl (ok_callF (q := [.p (eS ([97] : Bytes))]) ((fun x0 r h => (law16_awake_1_ok x0 r h).q) ([97] : Bytes) _ e3) rfl rfl rfl rfl rfl rfl rfl ⟨sr, trivial⟩ Tryz.call29 rfl ?_)
 refine nx 1 rfl (bd h0 fun r4 e5 h0 => ?_)
 refine mO rfl (ok_callF (q := [.p (eS ([98] : Bytes))]) ((fun x0 r h => (law16_awake_1_ok x0 r h).q) ([98] : Bytes) _ e5) rfl rfl rfl rfl rfl rfl rfl ⟨sr, trivial⟩ Tryz.call29 rfl ?_)
 refine mO rfl (op_bslice eTExpr [r2, r4] rfl rfl rfl rfl rfl rfl rfl rfl rfl rfl rfl rfl rfl (by first | rfl | (simp only [List.map_cons, List.map_nil, TExpr.agg_eq]; done) | (simp only [List.map_cons, List.map_nil, TExpr.agg_eq]; rfl)) ?_)
 refine nx 2 rfl (mG (ghost_slot 11 (y := .p (.agg (TExpr.cs (TExpr.mk 7 11 ([] : Bytes) ([] : Bytes) (TValue.mk 0 0 ([] : Bytes) [] []) [r2, r4] 0)))) rfl (sub_cells ⟨.inl rfl, .inl rfl, .inl rfl, .inl rfl, .inl rfl, .inl rfl, .inl rfl, .inr ⟨rfl, rfl⟩, .inr ⟨rfl, rfl⟩, .inl rfl, .inl rfl, trivial⟩)) ?_)
 refine nx 3 rfl (bd h0 fun r6 e7 h0 => ?_)
 refine mG (gE (t := ⟨[(1, .func (.func 29) []), (2, .ptr 2 0)], [(2, (TExpr.cs (TExpr.mk 7 11 ([] : Bytes) ([] : Bytes) (TValue.mk 0 0 ([] : Bytes) [] []) [r2, r4] 0)).map .p)]⟩) rfl rfl) (mS ⟨2, [5, 6], (by3 (some fun i => Nat.beq i 3) none none), (fun _ => [(1, .func (.func 29) []), (2, .ptr 2 0)]), (by3 ([(2, [.p (eI ((TExpr.mk 7 11 ([] : Bytes) ([] : Bytes) (TValue.mk 0 0 ([] : Bytes) [] []) [r2, r4] 0).fKind)), .p (eI ((TExpr.mk 7 11 ([] : Bytes) ([] : Bytes) (TValue.mk 0 0 ([] : Bytes) [] []) [r2, r4] 0).fOp)), .p (eS ((TExpr.mk 7 11 ([] : Bytes) ([] : Bytes) (TValue.mk 0 0 ([] : Bytes) [] []) [r2, r4] 0).fName)), .p (eS ((TExpr.mk 7 11 ([] : Bytes) ([] : Bytes) (TValue.mk 0 0 ([] : Bytes) [] []) [r2, r4] 0).fKey)), .p (eI (((TExpr.mk 7 11 ([] : Bytes) ([] : Bytes) (TValue.mk 0 0 ([] : Bytes) [] []) [r2, r4] 0).fValue).fKind)), .p (eI (((TExpr.mk 7 11 ([] : Bytes) ([] : Bytes) (TValue.mk 0 0 ([] : Bytes) [] []) [r2, r4] 0).fValue).fNum)), .p (eS (((TExpr.mk 7 11 ([] : Bytes) ([] : Bytes) (TValue.mk 0 0 ([] : Bytes) [] []) [r2, r4] 0).fValue).fStr)), .p (eL eTValue (((TExpr.mk 7 11 ([] : Bytes) ([] : Bytes) (TValue.mk 0 0 ([] : Bytes) [] []) [r2, r4] 0).fValue).fItems)), .p (eL eS (((TExpr.mk 7 11 ([] : Bytes) ([] : Bytes) (TValue.mk 0 0 ([] : Bytes) [] []) [r2, r4] 0).fValue).fKeys)), .p (eL eTExpr ((TExpr.mk 7 11 ([] : Bytes) ([] : Bytes) (TValue.mk 0 0 ([] : Bytes) [] []) [r2, r4] 0).fKids)), .p (eI ((TExpr.mk 7 11 ([] : Bytes) ([] : Bytes) (TValue.mk 0 0 ([] : Bytes) [] []) [r2, r4] 0).fAt))])]) ([(3, [.p (eI 0), .p (eI 0), .p (eS ([] : Bytes)), .p (eS ([] : Bytes)), .p (eI 0), .p (eI 0), .p (eS ([] : Bytes)), .p (.val (.slice none 0 0)), .p (.val (.slice none 0 0)), .p (.val (.slice none 0 0)), .p (eI 0)]), (2, [.p (eI ((TExpr.mk 7 11 ([] : Bytes) ([] : Bytes) (TValue.mk 0 0 ([] : Bytes) [] []) [r2, r4] 0).fKind)), .p (eI ((TExpr.mk 7 11 ([] : Bytes) ([] : Bytes) (TValue.mk 0 0 ([] : Bytes) [] []) [r2, r4] 0).fOp)), .p (eS ((TExpr.mk 7 11 ([] : Bytes) ([] : Bytes) (TValue.mk 0 0 ([] : Bytes) [] []) [r2, r4] 0).fName)), .p (eS ((TExpr.mk 7 11 ([] : Bytes) ([] : Bytes) (TValue.mk 0 0 ([] : Bytes) [] []) [r2, r4] 0).fKey)), .p (eI (((TExpr.mk 7 11 ([] : Bytes) ([] : Bytes) (TValue.mk 0 0 ([] : Bytes) [] []) [r2, r4] 0).fValue).fKind)), .p (eI (((TExpr.mk 7 11 ([] : Bytes) ([] : Bytes) (TValue.mk 0 0 ([] : Bytes) [] []) [r2, r4] 0).fValue).fNum)), .p (eS (((TExpr.mk 7 11 ([] : Bytes) ([] : Bytes) (TValue.mk 0 0 ([] : Bytes) [] []) [r2, r4] 0).fValue).fStr)), .p (eL eTValue (((TExpr.mk 7 11 ([] : Bytes) ([] : Bytes) (TValue.mk 0 0 ([] : Bytes) [] []) [r2, r4] 0).fValue).fItems)), .p (eL eS (((TExpr.mk 7 11 ([] : Bytes) ([] : Bytes) (TValue.mk 0 0 ([] : Bytes) [] []) [r2, r4] 0).fValue).fKeys)), .p (eL eTExpr ((TExpr.mk 7 11 ([] : Bytes) ([] : Bytes) (TValue.mk 0 0 ([] : Bytes) [] []) [r2, r4] 0).fKids)), .p (eI ((TExpr.mk 7 11 ([] : Bytes) ([] : Bytes) (TValue.mk 0 0 ([] : Bytes) [] []) [r2, r4] 0).fAt))])]) ([(3, [.p (eI 7), .p (eI 13), .p (eS ([] : Bytes)), .p (eS ([] : Bytes)), .p (eI 0), .p (eI 0), .p (eS ([] : Bytes)), .p (.val (.slice none 0 0)), .p (.val (.slice none 0 0)), .p (eL eTExpr ([(TExpr.mk 7 11 ([] : Bytes) ([] : Bytes) (TValue.mk 0 0 ([] : Bytes) [] []) [r2, r4] 0), r6])), .p (eI 0)]), (3, [.p (eI 0), .p (eI 0), .p (eS ([] : Bytes)), .p (eS ([] : Bytes)), .p (eI 0), .p (eI 0), .p (eS ([] : Bytes)), .p (.val (.slice none 0 0)), .p (.val (.slice none 0 0)), .p (.val (.slice none 0 0)), .p (eI 0)]), (2, [.p (eI ((TExpr.mk 7 11 ([] : Bytes) ([] : Bytes) (TValue.mk 0 0 ([] : Bytes) [] []) [r2, r4] 0).fKind)), .p (eI ((TExpr.mk 7 11 ([] : Bytes) ([] : Bytes) (TValue.mk 0 0 ([] : Bytes) [] []) [r2, r4] 0).fOp)), .p (eS ((TExpr.mk 7 11 ([] : Bytes) ([] : Bytes) (TValue.mk 0 0 ([] : Bytes) [] []) [r2, r4] 0).fName)), .p (eS ((TExpr.mk 7 11 ([] : Bytes) ([] : Bytes) (TValue.mk 0 0 ([] : Bytes) [] []) [r2, r4] 0).fKey)), .p (eI (((TExpr.mk 7 11 ([] : Bytes) ([] : Bytes) (TValue.mk 0 0 ([] : Bytes) [] []) [r2, r4] 0).fValue).fKind)), .p (eI (((TExpr.mk 7 11 ([] : Bytes) ([] : Bytes) (TValue.mk 0 0 ([] : Bytes) [] []) [r2, r4] 0).fValue).fNum)), .p (eS (((TExpr.mk 7 11 ([] : Bytes) ([] : Bytes) (TValue.mk 0 0 ([] : Bytes) [] []) [r2, r4] 0).fValue).fStr)), .p (eL eTValue (((TExpr.mk 7 11 ([] : Bytes) ([] : Bytes) (TValue.mk 0 0 ([] : Bytes) [] []) [r2, r4] 0).fValue).fItems)), .p (eL eS (((TExpr.mk 7 11 ([] : Bytes) ([] : Bytes) (TValue.mk 0 0 ([] : Bytes) [] []) [r2, r4] 0).fValue).fKeys)), .p (eL eTExpr ((TExpr.mk 7 11 ([] : Bytes) ([] : Bytes) (TValue.mk 0 0 ([] : Bytes) [] []) [r2, r4] 0).fKids)), .p (eI ((TExpr.mk 7 11 ([] : Bytes) ([] : Bytes) (TValue.mk 0 0 ([] : Bytes) [] []) [r2, r4] 0).fAt))])]))⟩ rfl rfl rfl ⟨rfl, rfl, trivial⟩ (lt2 ⟨rfl, rfl, trivial⟩ ⟨rfl, rfl, trivial⟩) rfl rfl rfl rfl ?_)
 refine ds_pure (fun _ => .p (.agg (TExpr.cs (TExpr.mk 7 11 ([] : Bytes) ([] : Bytes) (TValue.mk 0 0 ([] : Bytes) [] []) [r2, r4] 0)))) rfl rfl rfl (all3 rfl rfl (fun _ => rfl)) (lt2 rfl rfl) (stg_no rfl (stg_yes [(2, _)] ⟨.inl rfl, trivial⟩ (fun sl hsl K hK => one_op rfl (ok_loadPA rfl rfl rfl rfl rfl (hsl _ _ rfl) rfl rfl rfl hK)) (stg_yes [(2, _)] ⟨.inl rfl, trivial⟩ (fun sl hsl K hK => one_op rfl (ok_loadPA rfl rfl rfl rfl rfl (hsl _ _ rfl) rfl rfl rfl hK)) stg_nil))) (ds_pure (fun _ => .func (.func 29) []) rfl rfl rfl (all3 rfl rfl (fun _ => rfl)) (lt2 rfl rfl) (stg_no rfl (stg_yes [(1, _)] ⟨.inl rfl, trivial⟩ (fun sl hsl K hK => one_op rfl (ok_move rfl rfl rfl (hsl _ _ rfl) hK)) (stg_yes [(1, _)] ⟨.inl rfl, trivial⟩ (fun sl hsl K hK => one_op rfl (ok_move rfl rfl rfl (hsl _ _ rfl) hK)) stg_nil))) ?_)
 refine ds_pure (fun _ => .p (.agg (TExpr.cs r6))) rfl rfl rfl (all3 rfl rfl (fun _ => rfl)) (lt2 rfl rfl) (stg_no rfl (stg_yes [(13, _)] ⟨.inr ⟨1, _, rfl, rfl, rfl⟩, trivial⟩ (fun sl hsl K hK => one_op rfl (ok_callF (q := [.p (eS ([99] : Bytes))]) ((fun x0 r h => (law16_awake_1_ok x0 r h).q) ([99] : Bytes) _ e7) rfl rfl rfl (hsl _ _ rfl) rfl (args_cons rfl args_nil) rfl ⟨sr, trivial⟩ Tryz.call29 rfl hK)) (stg_yes [(13, _)] ⟨.inr ⟨1, _, rfl, rfl, rfl⟩, trivial⟩ (fun sl hsl K hK => one_op rfl (ok_callF (q := [.p (eS ([99] : Bytes))]) ((fun x0 r h => (law16_awake_1_ok x0 r h).q) ([99] : Bytes) _ e7) rfl rfl rfl (hsl _ _ rfl) rfl (args_cons rfl args_nil) rfl ⟨sr, trivial⟩ Tryz.call29 rfl hK)) stg_nil))) (ds_pure (fun _ => .p (eL eTExpr ([(TExpr.mk 7 11 ([] : Bytes) ([] : Bytes) (TValue.mk 0 0 ([] : Bytes) [] []) [r2, r4] 0), r6]))) rfl rfl rfl (all3 rfl rfl (fun _ => rfl)) (lt2 rfl rfl) (stg_no rfl (stg_yes [(12, _), (14, _)] ⟨.inr ⟨0, _, rfl, rfl, rfl⟩, .inr ⟨2, _, rfl, rfl, rfl⟩, trivial⟩ (fun sl hsl K hK => one_op rfl (op_bslice eTExpr [(TExpr.mk 7 11 ([] : Bytes) ([] : Bytes) (TValue.mk 0 0 ([] : Bytes) [] []) [r2, r4] 0), r6] rfl rfl rfl rfl rfl rfl (elems_cons (hsl _ _ rfl) rfl (elems_cons (hsl _ _ rfl) rfl elems_nil)) rfl rfl rfl rfl rfl rfl (by first | rfl | (simp only [List.map_cons, List.map_nil, TExpr.agg_eq]; done) | (simp only [List.map_cons, List.map_nil, TExpr.agg_eq]; rfl)) hK)) (stg_yes [(12, _), (14, _)] ⟨.inr ⟨0, _, rfl, rfl, rfl⟩, .inr ⟨2, _, rfl, rfl, rfl⟩, trivial⟩ (fun sl hsl K hK => one_op rfl (op_bslice eTExpr [(TExpr.mk 7 11 ([] : Bytes) ([] : Bytes) (TValue.mk 0 0 ([] : Bytes) [] []) [r2, r4] 0), r6] rfl rfl rfl rfl rfl rfl (elems_cons (hsl _ _ rfl) rfl (elems_cons (hsl _ _ rfl) rfl elems_nil)) rfl rfl rfl rfl rfl rfl (by first | rfl | (simp only [List.map_cons, List.map_nil, TExpr.agg_eq]; done) | (simp only [List.map_cons, List.map_nil, TExpr.agg_eq]; rfl)) hK)) stg_nil))) ?_)
 refine ds_pure (fun _ => .p (.agg [eI 7, eI 13, eS ([] : Bytes), eS ([] : Bytes), eI 0, eI 0, eS ([] : Bytes), .val (.slice none 0 0), .val (.slice none 0 0), eL eTExpr ([(TExpr.mk 7 11 ([] : Bytes) ([] : Bytes) (TValue.mk 0 0 ([] : Bytes) [] []) [r2, r4] 0), r6]), eI 0])) rfl rfl rfl (all3 rfl rfl (fun _ => rfl)) (lt2 rfl rfl) (stg_no rfl (stg_yes [(15, _)] ⟨.inr ⟨3, _, rfl, rfl, rfl⟩, trivial⟩ (fun sl hsl K hK => one_op rfl (ok_build rfl rfl rfl rfl rfl rfl (parts_cons rfl (parts_cons rfl (parts_cons (hsl _ _ rfl) parts_nil))) rfl rfl hK)) (stg_yes [(15, _)] ⟨.inr ⟨3, _, rfl, rfl, rfl⟩, trivial⟩ (fun sl hsl K hK => one_op rfl (ok_build rfl rfl rfl rfl rfl rfl (parts_cons rfl (parts_cons rfl (parts_cons (hsl _ _ rfl) parts_nil))) rfl rfl hK)) stg_nil))) (ds_imp (fun _ => .ptr 3 0) [] rfl trivial rfl rfl (all2 rfl (fun _ => rfl)) (lt2 (fun h => absurd h (by decide)) (fun _ => rfl)) (fun sl hsl K hK => one_op rfl (ok_alloc rfl rfl rfl rfl rfl hK)) ?_)
 refine ds_store [(3, _), (16, _)] rfl ⟨.inr ⟨5, _, rfl, rfl, rfl⟩, .inr ⟨4, _, rfl, rfl, rfl⟩, trivial⟩ rfl (fun sl hsl K hK => one_op rfl (ok_store rfl rfl rfl (hsl _ _ rfl) (hsl _ _ rfl) rfl rfl rfl (Nat.le_of_ble_eq_true rfl) hK)) (ds_nil ?_)
 refine nx 6 rfl (mG (ghost_slot 18 (y := .p (.agg (TExpr.cs (TExpr.mk 1 0 ([] : Bytes) ([] : Bytes) (TValue.mk 3 0 ([120] : Bytes) [] []) [] 0)))) rfl (sub_cells ⟨.inl rfl, .inl rfl, .inl rfl, .inl rfl, .inl rfl, .inl rfl, .inl rfl, .inr ⟨rfl, rfl⟩, .inr ⟨rfl, rfl⟩, .inr ⟨rfl, rfl⟩, .inl rfl, trivial⟩)) ?_)
 refine nx 6 rfl (mO rfl (op_bslice eTAttribute [(TAttribute.mk ([97] : Bytes) (TExpr.mk 7 11 ([] : Bytes) ([] : Bytes) (TValue.mk 0 0 ([] : Bytes) [] []) [r2, r4] 0) 0)] rfl rfl rfl rfl rfl rfl rfl rfl rfl rfl rfl rfl rfl (by first | rfl | (simp only [List.map_cons, List.map_nil, TAttribute.agg_eq]; done) | (simp only [List.map_cons, List.map_nil, TAttribute.agg_eq]; rfl)) ?_))
 refine mO rfl (op_bslice eS [([120] : Bytes)] rfl rfl rfl rfl rfl rfl rfl rfl rfl rfl rfl rfl rfl rfl ?_)
 refine nx 1 rfl (mG (ghost_slot 23 (y := .p (.agg (TBlock.cs (TBlock.mk ([98] : Bytes) ([([120] : Bytes)]) (TBody.mk [] []) 0)))) rfl (sub_cells ⟨.inl rfl, .inl rfl, .inr ⟨rfl, rfl⟩, .inr ⟨rfl, rfl⟩, .inl rfl, trivial⟩)) ?_)
 refine mO rfl (op_bslice eTBlock [(TBlock.mk ([98] : Bytes) ([([120] : Bytes)]) (TBody.mk [] []) 0)] rfl rfl rfl rfl rfl rfl rfl rfl rfl rfl rfl rfl rfl (by first | rfl | (simp only [List.map_cons, List.map_nil, TBlock.agg_eq]; done) | (simp only [List.map_cons, List.map_nil, TBlock.agg_eq]; rfl)) ?_)
 refine nx 5 rfl (bd h0 fun o30 h1 h0 => ?_)
 refine kN o30 (fun v31 => ⟨[(0, .p (eB v31))], []⟩) ?_ ?_
 ·exact nx 2 rfl (mQ (oi h0) rfl (sr))
 refine nx 2 rfl (bd h1 fun r8 e9 h1 => ?_)
 refine oK (format_Expr_ok _ (TExpr.mk 7 13 ([] : Bytes) ([] : Bytes) (TValue.mk 0 0 ([] : Bytes) [] []) ([(TExpr.mk 7 11 ([] : Bytes) ([] : Bytes) (TValue.mk 0 0 ([] : Bytes) [] []) [r2, r4] 0), r6]) 0) _ e9) rfl ⟨sub_cells ⟨.inl rfl, .inl rfl, .inl rfl, .inl rfl, .inl rfl, .inl rfl, .inl rfl, .inr ⟨rfl, rfl⟩, .inr ⟨rfl, rfl⟩, .inl rfl, .inl rfl, trivial⟩, trivial⟩ Tryz.call10 rfl (oS rfl rfl ?_)
 refine nx 1 rfl (fD [28, 29] h1 rfl (fun c10 h1 => ?_) fun c10 h1 => ?_)
 ·refine nx 1 rfl (mO rfl (op_bslice eTExpr [(TExpr.mk 1 0 ([] : Bytes) ([] : Bytes) (TValue.mk 3 0 ([120] : Bytes) [] []) [] 0)] rfl rfl rfl rfl rfl rfl rfl rfl rfl rfl rfl rfl rfl (by first | rfl | (simp only [List.map_cons, List.map_nil, TExpr.agg_eq]; done) | (simp only [List.map_cons, List.map_nil, TExpr.agg_eq]; rfl)) ?_))
  refine nx 1 rfl (bd h1 fun r11 e12 h1 => ?_)
  refine oK (format_Expr_ok _ (TExpr.mk 2 0 ([] : Bytes) ([] : Bytes) (TValue.mk 0 0 ([] : Bytes) [] []) ([(TExpr.mk 1 0 ([] : Bytes) ([] : Bytes) (TValue.mk 3 0 ([120] : Bytes) [] []) [] 0)]) 0) _ e12) rfl ⟨sub_cells ⟨.inl rfl, .inl rfl, .inl rfl, .inl rfl, .inl rfl, .inl rfl, .inl rfl, .inr ⟨rfl, rfl⟩, .inr ⟨rfl, rfl⟩, .inl rfl, .inl rfl, trivial⟩, trivial⟩ Tryz.call10 rfl (oS rfl rfl ?_)
  refine nx 2 rfl (fD [34, 35, 36] h1 rfl (fun c13 h1 => ?_) fun c13 h1 => ?_)
  ·refine nx 1 rfl (bd h1 fun r14 e15 h1 => ?_)
   refine oK (format_Body_ok _ (TBody.mk ([(TAttribute.mk ([97] : Bytes) (TExpr.mk 7 11 ([] : Bytes) ([] : Bytes) (TValue.mk 0 0 ([] : Bytes) [] []) [r2, r4] 0) 0)]) ([(TBlock.mk ([98] : Bytes) ([([120] : Bytes)]) (TBody.mk [] []) 0)])) _ e15) rfl ⟨sr, trivial⟩ Tryz.call12 rfl (oS rfl rfl ?_)
   refine nx 2 rfl (fD [39, 40, 41] h1 rfl (fun c16 h1 => ?_) fun c16 h1 => ?_)
   ·refine nx 2 rfl (bd h1 fun r17 e18 h1 => ?_)
    refine oK (format_EqualExpr_ok _ (TExpr.mk 7 11 ([] : Bytes) ([] : Bytes) (TValue.mk 0 0 ([] : Bytes) [] []) [r2, r4] 0) (TExpr.mk 7 11 ([] : Bytes) ([] : Bytes) (TValue.mk 0 0 ([] : Bytes) [] []) [r2, r4] 0) _ e18) rfl ⟨sr, sr, trivial⟩ Tryz.call14 rfl (nx 2 rfl ?_)
    refine fB [44, 45, 46] h1 rfl (fun c19 h1 => ?_) fun c19 h1 => ?_
    ·refine nx 2 rfl (bd h1 fun r20 e21 h1 => ?_)
     refine oK (format_EqualExpr_ok _ (TExpr.mk 7 11 ([] : Bytes) ([] : Bytes) (TValue.mk 0 0 ([] : Bytes) [] []) [r2, r4] 0) (TExpr.mk 7 13 ([] : Bytes) ([] : Bytes) (TValue.mk 0 0 ([] : Bytes) [] []) ([(TExpr.mk 7 11 ([] : Bytes) ([] : Bytes) (TValue.mk 0 0 ([] : Bytes) [] []) [r2, r4] 0), r6]) 0) _ e21) rfl ⟨sr, sub_cells ⟨.inl rfl, .inl rfl, .inl rfl, .inl rfl, .inl rfl, .inl rfl, .inl rfl, .inr ⟨rfl, rfl⟩, .inr ⟨rfl, rfl⟩, .inl rfl, .inl rfl, trivial⟩, trivial⟩ Tryz.call14 rfl (nx 3 rfl ?_)
     refine fB [50, 51, 52] h1 rfl (fun c22 h1 => ?_) fun c22 h1 => ?_
     ·refine nx 2 rfl (bd h1 fun r23 e24 h1 => ?_)
      refine oK (format_EqualBody_ok _ (TBody.mk ([(TAttribute.mk ([97] : Bytes) (TExpr.mk 7 11 ([] : Bytes) ([] : Bytes) (TValue.mk 0 0 ([] : Bytes) [] []) [r2, r4] 0) 0)]) ([(TBlock.mk ([98] : Bytes) ([([120] : Bytes)]) (TBody.mk [] []) 0)])) (TBody.mk ([(TAttribute.mk ([97] : Bytes) (TExpr.mk 7 11 ([] : Bytes) ([] : Bytes) (TValue.mk 0 0 ([] : Bytes) [] []) [r2, r4] 0) 0)]) ([(TBlock.mk ([98] : Bytes) ([([120] : Bytes)]) (TBody.mk [] []) 0)])) _ e24) rfl ⟨sr, sr, trivial⟩ Tryz.call16 rfl (nx 2 rfl ?_)
      refine fB [55, 56, 57] h1 rfl (fun c25 h1 => ?_) fun c25 h1 => ?_
      ·refine nx 2 rfl (bd h1 fun r26 e27 h1 => ?_)
       refine oK (format_EqualBody_ok _ (TBody.mk ([(TAttribute.mk ([97] : Bytes) (TExpr.mk 7 11 ([] : Bytes) ([] : Bytes) (TValue.mk 0 0 ([] : Bytes) [] []) [r2, r4] 0) 0)]) ([(TBlock.mk ([98] : Bytes) ([([120] : Bytes)]) (TBody.mk [] []) 0)])) (TBody.mk [] []) _ e27) rfl ⟨sr, sub_cells ⟨.inr ⟨rfl, rfl⟩, .inr ⟨rfl, rfl⟩, trivial⟩, trivial⟩ Tryz.call16 rfl (nx 4 rfl ?_)
       exact eX _ (oi h1).symm (gE rfl rfl)
      exact nx 7 rfl (eX _ (oi h1).symm (gE rfl rfl))
     exact nx 12 rfl (eX _ (oi h1).symm (gE rfl rfl))
    exact nx 18 rfl (eX _ (oi h1).symm (gE rfl rfl))
   exact nx 23 rfl (eX _ (oi h1).symm (gE rfl rfl))
  exact nx 28 rfl (eX _ (oi h1).symm (gE rfl rfl))
 exact nx 35 rfl (eX _ (oi h1).symm (gE rfl rfl))
end Go.Ab.R06
