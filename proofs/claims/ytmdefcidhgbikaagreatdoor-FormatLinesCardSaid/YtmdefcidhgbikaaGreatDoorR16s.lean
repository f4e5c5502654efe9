/- Chapter 16. -/
import Derived.Test.YtmdefcidhgbikaaGreatDoorR16t
set_option linter.unusedVariables false
set_option linter.unusedSimpArgs false
set_option linter.unnecessarySimpa false
namespace Go.Ab.R06
open Go.Proofs Go.Ab Go.Ab.RB
attribute [local irreducible] awp rwpL OpOk PCalls OCalls AV.sub M Ghost
def law16_FormatLines_l1 (r19 : (List Bytes)) : Nat → Int → Int → Option (Int ⊕ Bool)
 | 0, _, _ => none
 | m + 1, depth50, i51 =>
 if i51 < (r19.length : Int) then
  jn (
    ck ((0 : Int) ≤ i51 ∧ i51 < (r19.length : Int)) <|
    (strings_TrimLeft (lat r19 i51) ([32] : Bytes)).bind fun r54 =>
    (
      if r54 = ([] : Bytes) then
       some true
      else
       ck ((0 : Int) ≤ i51 ∧ i51 < (r19.length : Int)) <|
       (strings_HasSuffix (lat r19 i51) ([32] : Bytes)).bind fun r58 =>
       if r58 = true then
        some true
       else
        ck ((0 : Int) ≤ i51 ∧ i51 < (r19.length : Int)) <|
        (strings_Contains (lat r19 i51) ([9] : Bytes)).bind fun r62 =>
        some r62
     : Option Bool).bind fun t64 =>
    if t64 = true then
     some (.inr (.inr false))
    else
     (
       if r54 = ([125] : Bytes) then
        ck (inR (depth50 - 1)) <|
        some (depth50 - 1)
       else
        some depth50
      : Option Int).bind fun depth68 =>
     ck ((0 : Int) ≤ i51 ∧ i51 < (r19.length : Int)) <|
     ck (inR (((lat r19 i51).length : Int) - (r54.length : Int))) <|
     ck (inR (2 * depth68)) <|
     if ((lat r19 i51).length : Int) - (r54.length : Int) = 2 * depth68 then
      (strings_HasSuffix r54 ([32, 123] : Bytes)).bind fun r73 =>
      if r73 = true then
       ck (inR (depth68 + 1)) <|
       some (.inl (depth68 + 1))
      else
       some (.inl depth68)
     else
      some (.inr (.inr false))
   : Option (Int ⊕ (Int ⊕ Bool))) fun depth77 =>
  ck (inR (i51 + 1)) <|
  law16_FormatLines_l1 r19 m depth77 (i51 + 1)
 else
  some (.inl depth50)
def law16_FormatLines (n : Nat) (b_0 : TBody) : Option Bool :=
 (law16_whole n [b_0]).bind fun r1 =>
 if (!r1) = true then
  (law16_awake n).bind fun r4 =>
  some r4
 else
  (format_Body n b_0).bind fun r6 =>
  if r6 = ([] : Bytes) then
   (
     ck (inR ((b_0.fAttrs.length : Int) + (b_0.fBlocks.length : Int))) <|
     if (b_0.fAttrs.length : Int) + (b_0.fBlocks.length : Int) = 0 then
      (law16_awake n).bind fun r11 =>
      some r11
     else
      some false
    : Option Bool).bind fun t13 =>
   some t13
  else
   (strings_HasSuffix r6 ([10] : Bytes)).bind fun r14 =>
   if (!r14) = true then
    some false
   else
    ck (inR ((r6.length : Int) - 1)) <|
    ck ((0 : Int) ≤ 0 ∧ 0 ≤ (r6.length : Int) - 1 ∧ (r6.length : Int) - 1 ≤ (r6.length : Int)) <|
    (strings_Split (sub r6 0 ((r6.length : Int) - 1)) ([10] : Bytes)).bind fun r19 =>
    jn (law16_FormatLines_l1 r19 n 0 0) fun depth81 =>
    (
      if depth81 = 0 then
       (law16_awake n).bind fun r83 =>
       some r83
      else
       some false
     : Option Bool).bind fun t85 =>
    some t85
set_option maxHeartbeats 4000000 in
theorem law16_FormatLines_ok (n : Nat) (b_0 : TBody) (r : Bool) (h0 : law16_FormatLines n b_0 = some r) : PCalls Tryz.prog 5 [.agg (TBody.cs b_0)] (· = .p (eB r)) := by
 unfold law16_FormatLines at h0
 refine pbodyA good Tryz.func5 rfl rfl rfl fun w0 => mP (fun v : Bool => .p (eB v)) ?_
 refine nx 9 rfl (mO rfl (op_bslice eTBody [b_0] rfl rfl rfl rfl rfl rfl rfl rfl rfl rfl rfl rfl rfl (by first | rfl | (simp only [List.map_cons, List.map_nil, TBody.agg_eq]; done) | (simp only [List.map_cons, List.map_nil, TBody.agg_eq]; rfl)) ?_))
 refine bd h0 fun r1 e2 h0 => oK (law16_whole_ok _ [b_0] _ e2) rfl ⟨sr, trivial⟩ Tryz.call8 rfl (nx 2 rfl ?_)
 refine fB [11] h0 rfl (fun c3 h0 => ?_) fun c3 h0 => ?_
 ·refine nx 3 rfl (bd h0 fun r4 e5 h0 => ?_)
  refine oK (law16_awake_ok _  _ e5) rfl trivial Tryz.call9 rfl (nx 3 rfl ?_)
  exact mQ (oi h0) rfl (sr)
 refine nx 5 rfl (bd h0 fun r6 e7 h0 => ?_)
 refine oK (format_Body_ok _ b_0 _ e7) rfl ⟨sr, trivial⟩ Tryz.call12 rfl (nx 6 rfl ?_)
 refine oS rfl rfl (nx 1 rfl ?_)
 refine fD [16] h0 rfl (fun c8 h0 => ?_) fun c8 h0 => ?_
 ·refine nx 2 rfl (bd h0 fun o92 h1 h0 => ?_)
  refine kN o92 (fun v93 => ⟨[(2, .p (eB v93))], []⟩) ?_ ?_
  ·exact nx 2 rfl (mQ (oi h0) rfl (sr))
  refine nx 3 rfl (oLl (f := eTAttribute) rfl rfl ?_)
  refine nx 2 rfl (oLl (f := eTBlock) rfl rfl ?_)
  refine oA h1 rfl rfl fun hk9 h1 => nx 2 rfl (fD [24, 25] h1 rfl (fun c10 h1 => ?_) fun c10 h1 => ?_)
  ·refine bd h1 fun r11 e12 h1 => oK (law16_awake_ok _  _ e12) rfl trivial Tryz.call9 rfl (nx 3 rfl ?_)
   exact eX _ (oi h1).symm (gE rfl rfl)
  exact nx 4 rfl (eX _ (oi h1).symm (gE rfl rfl))
 refine nx 6 rfl (bd h0 fun r14 e15 h0 => ?_)
 refine oK (strings_HasSuffix_ok r6 ([10] : Bytes) _ e15) rfl ⟨sr, sr, trivial⟩ Tryz.call18 rfl (nx 2 rfl ?_)
 refine fB [30] h0 rfl (fun c16 h0 => ?_) fun c16 h0 => ?_
 ·exact nx 6 rfl (mQ (oi h0) rfl (sr))
 refine nx 6 rfl (oLs rfl ?_)
 refine oA h0 rfl rfl fun hk17 h0 => oP h0 rfl rfl rfl fun hk18 h0 => bd h0 fun r19 e20 h0 => oK (strings_Split_ok (sub r6 0 ((r6.length : Int) - 1)) ([10] : Bytes) _ e20) rfl ⟨sr, sr, trivial⟩ Tryz.call19 rfl (nx 12 rfl ?_)
 obtain ⟨o94, h1, hL0, hR0⟩ := jn_cut h0
 refine kEx 0 (fun v95 : Int => o94 = .inl v95) (fun v95 => ⟨[(5, .p (eI v95))], []⟩) (fun v95 hv => ?_) ?_
 ·have h0 := hL0 _ hv
  refine nx 2 rfl (bd h0 fun o96 h1 h0 => ?_)
  refine kN o96 (fun v97 => ⟨[(2, .p (eB v97))], []⟩) ?_ ?_
  ·exact nx 2 rfl (mQ (oi h0) rfl (sr))
  refine nx 4 rfl (fD [84, 85] h1 rfl (fun c82 h1 => ?_) fun c82 h1 => ?_)
  ·refine bd h1 fun r83 e84 h1 => oK (law16_awake_ok _  _ e84) rfl trivial Tryz.call9 rfl (nx 3 rfl ?_)
   exact eX _ (oi h1).symm (gE rfl rfl)
  exact nx 4 rfl (eX _ (oi h1).symm (gE rfl rfl))
 refine lG (fun (q98 : Int × Int) => ⟨[(4, .p (eL eS r19)), (5, .p (eI q98.1)), (6, .p (eI q98.2))], []⟩) (fun m (q98 : Int × Int) => law16_FormatLines_l1 r19 m q98.1 q98.2) (fun _ => rfl) (0, 0) h1 (gE rfl rfl) ?_
 rintro m ⟨depth50, i51⟩ h1
 replace h1 : law16_FormatLines_l1 r19 (m + 1) depth50 i51 = some o94 := h1
 rw [law16_FormatLines_l1] at h1
 refine nx 5 rfl (oLl (f := eS) rfl rfl ?_)
 refine nx 2 rfl (fD [40] h1 rfl (fun c52 h1 => ?_) fun c52 h1 => ?_)
 ·refine nx 3 rfl ?_
  obtain ⟨o99, h2, hL1, hR1⟩ := jn_cut h1
  refine kX (fun v100 : Int => o99 = .inl v100) (fun v100 => ⟨[(4, .p (eL eS r19)), (5, .p (eI v100)), (6, .p (eI i51))], []⟩) (fun v100 hv => ?_) ?_
  ·have h1 := hL1 _ hv
   refine nx 3 rfl (oA h1 rfl rfl fun hk78 h1 => ?_)
   exact nx 2 rfl (eX (v100, i51 + 1) h1 (gE rfl rfl))
  refine nx 5 rfl (oE h2 (fun _ => rfl) rfl rfl (fun _ => rfl) fun hk53 h2 => ?_)
  refine nx 1 rfl (bd h2 fun r54 e55 h2 => ?_)
  refine oK (strings_TrimLeft_ok (lat r19 i51) ([32] : Bytes) _ e55) rfl ⟨sr, sr, trivial⟩ Tryz.call20 rfl (nx 4 rfl ?_)
  refine bd h2 fun o101 h3 h2 => kN o101 (fun v102 => ⟨[(4, .p (eL eS r19)), (5, .p (eI depth50)), (6, .p (eI i51)), (7, .p (eS r54)), (63, .p (eB v102))], []⟩) ?_ ?_
  ·refine nx 1 rfl (fB [63] h2 rfl (fun c65 h2 => ?_) fun c65 h2 => ?_)
   ·exact nx 6 rfl (mQ (hR0 _ (hR1 _ (oi h2).symm).symm) rfl (sr))
   refine nx 3 rfl (bd h2 fun o103 h3 h2 => ?_)
   refine kN o103 (fun v104 => ⟨[(4, .p (eL eS r19)), (5, .p (eI v104)), (6, .p (eI i51)), (7, .p (eS r54))], []⟩) ?_ ?_
   ·refine nx 6 rfl (oE h2 (fun _ => rfl) rfl rfl (fun _ => rfl) fun hk69 h2 => ?_)
    refine nx 1 rfl (oLs rfl ?_)
    refine nx 1 rfl (oLs rfl ?_)
    refine oA h2 rfl rfl fun hk70 h2 => nx 1 rfl (oA h2 rfl rfl fun hk71 h2 => ?_)
    refine nx 2 rfl (fN [78] h2 rfl (fun c72 h2 => ?_) fun c72 h2 => ?_)
    ·refine nx 5 rfl (bd h2 fun r73 e74 h2 => ?_)
     refine oK (strings_HasSuffix_ok r54 ([32, 123] : Bytes) _ e74) rfl ⟨sr, sr, trivial⟩ Tryz.call18 rfl (nx 1 rfl ?_)
     refine fB [80] h2 rfl (fun c75 h2 => ?_) fun c75 h2 => ?_
     ·refine nx 3 rfl (oA h2 rfl rfl fun hk76 h2 => ?_)
      exact nx 2 rfl (eX _ (oi h2).symm (gE rfl rfl))
     exact nx 2 rfl (eX _ (oi h2).symm (gE rfl rfl))
    exact nx 6 rfl (mQ (hR0 _ (hR1 _ (oi h2).symm).symm) rfl (sr))
   refine nx 3 rfl (oS rfl rfl ?_)
   refine nx 1 rfl (fD [65] h3 rfl (fun c66 h3 => ?_) fun c66 h3 => ?_)
   ·refine nx 3 rfl (oA h3 rfl rfl fun hk67 h3 => ?_)
    exact nx 2 rfl (eX _ (oi h3).symm (gE rfl rfl))
   exact nx 2 rfl (eX _ (oi h3).symm (gE rfl rfl))
  refine nx 2 rfl (oS rfl rfl ?_)
  refine nx 1 rfl (fD [49, 50] h3 rfl (fun c56 h3 => ?_) fun c56 h3 => ?_)
  ·exact nx 14 rfl (eX _ (oi h3).symm (gE rfl rfl))
  refine nx 2 rfl (oE h3 (fun _ => rfl) rfl rfl (fun _ => rfl) fun hk57 h3 => ?_)
  refine nx 1 rfl (bd h3 fun r58 e59 h3 => ?_)
  refine oK (strings_HasSuffix_ok (lat r19 i51) ([32] : Bytes) _ e59) rfl ⟨sr, sr, trivial⟩ Tryz.call18 rfl (nx 2 rfl ?_)
  refine fB [55, 56, 57] h3 rfl (fun c60 h3 => ?_) fun c60 h3 => ?_
  ·exact nx 7 rfl (eX _ (oi h3).symm (gE rfl rfl))
  refine nx 2 rfl (oE h3 (fun _ => rfl) rfl rfl (fun _ => rfl) fun hk61 h3 => ?_)
  refine nx 1 rfl (bd h3 fun r62 e63 h3 => ?_)
  refine oK (strings_Contains_ok (lat r19 i51) ([9] : Bytes) _ e63) rfl ⟨sr, sr, trivial⟩ Tryz.call21 rfl (nx 2 rfl ?_)
  exact eX _ (oi h3).symm (gE rfl rfl)
 exact nx 2 rfl (eXi _ (oi h1).symm (gE rfl rfl))
end Go.Ab.R06
