/- Chapter 42. -/
import Derived.Test.YtgdcfenbmcflkaaGreatDoorR42
set_option linter.unusedVariables false
set_option linter.unusedSimpArgs false
set_option linter.unnecessarySimpa false
namespace Go.Ab.R06
open Go.Proofs Go.Ab Go.Ab.RB
attribute [local irreducible] awp rwpL OpOk PCalls OCalls AV.sub M Ghost

def law42_change (addr_0 : Bytes) (a_1 : Int) (deps_2 : List Bytes) (old_3 : List Bytes) : Option TChange :=
 some (TChange.mk addr_0 ([] : Bytes) ([] : Bytes) a_1 0 (TValue.mk 0 0 ([] : Bytes) [] []) (TValue.mk 0 0 ([] : Bytes) [] []) ([] : Bytes) [] false false false deps_2 old_3)

set_option maxHeartbeats 4000000 in
theorem law42_change_ok (addr_0 : Bytes) (a_1 : Int) (deps_2 : List Bytes) (old_3 : List Bytes) (r : TChange) (h0 : law42_change addr_0 a_1 deps_2 old_3 = some r) : PCalls Tryz.prog 30 [eS addr_0, eI a_1, eL eS deps_2, eL eS old_3] (· = .p (.agg (TChange.cs r))) := by
 unfold law42_change at h0
 refine pbodyA good Tryz.func30 rfl rfl rfl fun w0 => mP (fun v : TChange => .p (.agg (TChange.cs v))) ?_
 exact nx 14 rfl (mQ (oi h0) rfl (sub_cells ⟨.inl rfl, .inl rfl, .inl rfl, .inl rfl, .inl rfl, .inl rfl, .inl rfl, .inl rfl, .inr ⟨rfl, rfl⟩, .inr ⟨rfl, rfl⟩, .inl rfl, .inl rfl, .inl rfl, .inr ⟨rfl, rfl⟩, .inr ⟨rfl, rfl⟩, .inl rfl, .inr ⟨rfl, rfl⟩, .inl rfl, .inl rfl, .inl rfl, .inl rfl, .inl rfl, trivial⟩))

def law42_awake (n : Nat) : Option Bool :=
 (law42_change ([97, 46, 120] : Bytes) 4 [] []).bind fun r1 =>
 (law42_change ([98, 46, 121] : Bytes) 4 [] ([([97, 46, 120] : Bytes)])).bind fun r3 =>
 (law42_change ([110, 101, 116, 46, 110] : Bytes) 1 [] []).bind fun r5 =>
 (law42_change ([115, 101, 114, 118, 101, 114, 46, 115, 91, 48, 93] : Bytes) 1 ([([110, 101, 116, 46, 110] : Bytes)]) []).bind fun r7 =>
 (target_Filter n ([([97, 46, 120] : Bytes)]) [r1, r3, r5, r7]).bind fun r9 =>
 (target_Filter n ([([98, 46, 121] : Bytes)]) [r1, r3, r5, r7]).bind fun r11 =>
 (target_Filter n ([([115, 101, 114, 118, 101, 114, 46, 115] : Bytes)]) [r1, r3, r5, r7]).bind fun r13 =>
 (target_Close n (TGraph.mk ([([97] : Bytes), ([98] : Bytes)]) ([(TEdge.mk ([97] : Bytes) ([98] : Bytes))])) ([([97] : Bytes)])).bind fun r15 =>
 (
   if (r9.length : Int) = 2 then
    if (r11.length : Int) = 1 then
     ck ((0 : Int) ≤ 0 ∧ 0 < (r11.length : Int)) <|
     if (lat r11 0).fAddr = ([98, 46, 121] : Bytes) then
      if (r13.length : Int) = 2 then
       ck ((0 : Int) ≤ 0 ∧ 0 < (r13.length : Int)) <|
       if (lat r13 0).fAddr = ([110, 101, 116, 46, 110] : Bytes) then
        (target_Filter n [] [r1, r3, r5, r7]).bind fun r24 =>
        if (r24.length : Int) = 4 then
         if (r15.length : Int) = 2 then
          (target_Selected n ([([97, 46, 98] : Bytes)]) ([97, 46, 98, 91, 48, 93] : Bytes)).bind fun r28 =>
          if r28 = true then
           (target_Selected n ([([97, 46, 98] : Bytes)]) ([97, 46, 99] : Bytes)).bind fun r31 =>
           if (!r31) = true then
            (target_Check n ([([97, 46, 98] : Bytes)])).bind fun r34 =>
            if r34 = 0 then
             (target_Check n ([([] : Bytes)])).bind fun r37 =>
             some (!decide (r37 = 0))
            else
             some false
           else
            some false
          else
           some false
         else
          some false
        else
         some false
       else
        some false
      else
       some false
     else
      some false
    else
     some false
   else
    some false
  : Option Bool).bind fun t39 =>
 some t39

set_option maxHeartbeats 4000000 in
theorem law42_awake_ok (n : Nat) (r : Bool) (h0 : law42_awake n = some r) : PCalls Tryz.prog 13 [] (· = .p (eB r)) := by
 unfold law42_awake at h0
 refine pbodyA good Tryz.func13 rfl rfl rfl fun w0 => mP (fun v : Bool => .p (eB v)) ?_
 refine nx 6 rfl (bd h0 fun r1 e2 h0 => ?_)
 refine oK (law42_change_ok ([97, 46, 120] : Bytes) 4 [] [] _ e2) rfl ⟨sr, sr, sub_nilL _, sub_nilL _, trivial⟩ Tryz.call30 rfl (mO rfl (op_bslice eS [([97, 46, 120] : Bytes)] rfl rfl rfl rfl rfl rfl rfl rfl rfl rfl rfl rfl rfl rfl ?_))
 refine bd h0 fun r3 e4 h0 => oK (law42_change_ok ([98, 46, 121] : Bytes) 4 [] ([([97, 46, 120] : Bytes)]) _ e4) rfl ⟨sr, sr, sub_nilL _, sr, trivial⟩ Tryz.call30 rfl (bd h0 fun r5 e6 h0 => ?_)
 refine oK (law42_change_ok ([110, 101, 116, 46, 110] : Bytes) 1 [] [] _ e6) rfl ⟨sr, sr, sub_nilL _, sub_nilL _, trivial⟩ Tryz.call30 rfl (mO rfl (op_bslice eS [([110, 101, 116, 46, 110] : Bytes)] rfl rfl rfl rfl rfl rfl rfl rfl rfl rfl rfl rfl rfl rfl ?_))
 refine bd h0 fun r7 e8 h0 => oK (law42_change_ok ([115, 101, 114, 118, 101, 114, 46, 115, 91, 48, 93] : Bytes) 1 ([([110, 101, 116, 46, 110] : Bytes)]) [] _ e8) rfl ⟨sr, sr, sr, sub_nilL _, trivial⟩ Tryz.call30 rfl (mO rfl (op_bslice eTChange [r1, r3, r5, r7] rfl rfl rfl rfl rfl rfl rfl rfl rfl rfl rfl rfl rfl (by first | rfl | (simp only [List.map_cons, List.map_nil, TChange.agg_eq]; done) | (simp only [List.map_cons, List.map_nil, TChange.agg_eq]; rfl)) ?_))
 refine nx 4 rfl (mO rfl (op_bslice eS [([97, 46, 120] : Bytes)] rfl rfl rfl rfl rfl rfl rfl rfl rfl rfl rfl rfl rfl rfl ?_))
 refine nx 1 rfl (bd h0 fun r9 e10 h0 => ?_)
 refine oK (target_Filter_ok _ ([([97, 46, 120] : Bytes)]) [r1, r3, r5, r7] _ e10) rfl ⟨sr, sr, trivial⟩ Tryz.call23 rfl (nx 4 rfl ?_)
 refine mO rfl (op_bslice eS [([98, 46, 121] : Bytes)] rfl rfl rfl rfl rfl rfl rfl rfl rfl rfl rfl rfl rfl rfl ?_)
 refine nx 1 rfl (bd h0 fun r11 e12 h0 => ?_)
 refine oK (target_Filter_ok _ ([([98, 46, 121] : Bytes)]) [r1, r3, r5, r7] _ e12) rfl ⟨sr, sr, trivial⟩ Tryz.call23 rfl (nx 4 rfl ?_)
 refine mO rfl (op_bslice eS [([115, 101, 114, 118, 101, 114, 46, 115] : Bytes)] rfl rfl rfl rfl rfl rfl rfl rfl rfl rfl rfl rfl rfl rfl ?_)
 refine nx 1 rfl (bd h0 fun r13 e14 h0 => ?_)
 refine oK (target_Filter_ok _ ([([115, 101, 114, 118, 101, 114, 46, 115] : Bytes)]) [r1, r3, r5, r7] _ e14) rfl ⟨sr, sr, trivial⟩ Tryz.call23 rfl (nx 4 rfl ?_)
 refine mO rfl (op_bslice eS [([97] : Bytes), ([98] : Bytes)] rfl rfl rfl rfl rfl rfl rfl rfl rfl rfl rfl rfl rfl rfl ?_)
 refine nx 1 rfl (mO rfl (op_bslice eTEdge [(TEdge.mk ([97] : Bytes) ([98] : Bytes))] rfl rfl rfl rfl rfl rfl rfl rfl rfl rfl rfl rfl rfl (by first | rfl | (simp only [List.map_cons, List.map_nil, TEdge.agg_eq]; done) | (simp only [List.map_cons, List.map_nil, TEdge.agg_eq]; rfl)) ?_))
 refine nx 7 rfl (mO rfl (op_bslice eS [([97] : Bytes)] rfl rfl rfl rfl rfl rfl rfl rfl rfl rfl rfl rfl rfl rfl ?_))
 refine bd h0 fun r15 e16 h0 => oK (target_Close_ok _ (TGraph.mk ([([97] : Bytes), ([98] : Bytes)]) ([(TEdge.mk ([97] : Bytes) ([98] : Bytes))])) ([([97] : Bytes)]) _ e16) rfl ⟨sr, sr, trivial⟩ Tryz.call18 rfl (nx 2 rfl ?_)
 refine mG (gE (t := ⟨[(1, .p (eL eTChange [r1, r3, r5, r7])), (2, .p (eL eTChange r9)), (3, .p (eL eTChange r11)), (4, .p (eL eTChange r13)), (6, .p (eL eS r15))], []⟩) rfl rfl) (nx 1 rfl ?_)
 refine bd h0 fun o41 h1 h0 => kN o41 (fun v42 => ⟨[(0, .p (eB v42))], []⟩) ?_ ?_
 ·exact nx 2 rfl (mQ (oi h0) rfl (sr))
 refine nx 2 rfl (oLl (f := eTChange) rfl rfl ?_)
 refine nx 2 rfl (fD [32, 33] h1 rfl (fun c17 h1 => ?_) fun c17 h1 => ?_)
 ·refine nx 1 rfl (oLl (f := eTChange) rfl rfl ?_)
  refine nx 3 rfl (fD [36, 37, 38] h1 rfl (fun c18 h1 => ?_) fun c18 h1 => ?_)
  ·refine nx 1 rfl (oE h1 TChange.cells_eq rfl rfl (fun _ => rfl) fun hk19 h1 => ?_)
   refine nx 2 rfl (oS rfl rfl ?_)
   refine nx 2 rfl (fD [43, 44, 45] h1 rfl (fun c20 h1 => ?_) fun c20 h1 => ?_)
   ·refine nx 1 rfl (oLl (f := eTChange) rfl rfl ?_)
    refine nx 3 rfl (fD [48, 49, 50] h1 rfl (fun c21 h1 => ?_) fun c21 h1 => ?_)
    ·refine nx 1 rfl (oE h1 TChange.cells_eq rfl rfl (fun _ => rfl) fun hk22 h1 => ?_)
     refine nx 2 rfl (oS rfl rfl ?_)
     refine nx 2 rfl (fD [55, 56, 57] h1 rfl (fun c23 h1 => ?_) fun c23 h1 => ?_)
     ·refine nx 1 rfl (bd h1 fun r24 e25 h1 => ?_)
      refine oK (target_Filter_ok _ [] [r1, r3, r5, r7] _ e25) rfl ⟨sub_nilL _, sr, trivial⟩ Tryz.call23 rfl (oLl (f := eTChange) rfl rfl ?_)
      refine nx 3 rfl (fD [61, 62, 63] h1 rfl (fun c26 h1 => ?_) fun c26 h1 => ?_)
      ·refine nx 1 rfl (oLl (f := eS) rfl rfl ?_)
       refine nx 3 rfl (fD [66, 67, 68] h1 rfl (fun c27 h1 => ?_) fun c27 h1 => ?_)
       ·refine mO rfl (op_bslice eS [([97, 46, 98] : Bytes)] rfl rfl rfl rfl rfl rfl rfl rfl rfl rfl rfl rfl rfl rfl ?_)
        refine bd h1 fun r28 e29 h1 => oK (target_Selected_ok _ ([([97, 46, 98] : Bytes)]) ([97, 46, 98, 91, 48, 93] : Bytes) _ e29) rfl ⟨sr, sr, trivial⟩ Tryz.call15 rfl (nx 2 rfl ?_)
        refine fB [70, 71, 72] h1 rfl (fun c30 h1 => ?_) fun c30 h1 => ?_
        ·refine mO rfl (op_bslice eS [([97, 46, 98] : Bytes)] rfl rfl rfl rfl rfl rfl rfl rfl rfl rfl rfl rfl rfl rfl ?_)
         refine bd h1 fun r31 e32 h1 => oK (target_Selected_ok _ ([([97, 46, 98] : Bytes)]) ([97, 46, 99] : Bytes) _ e32) rfl ⟨sr, sr, trivial⟩ Tryz.call15 rfl (nx 3 rfl ?_)
         refine fB [75, 76, 77] h1 rfl (fun c33 h1 => ?_) fun c33 h1 => ?_
         ·refine mO rfl (op_bslice eS [([97, 46, 98] : Bytes)] rfl rfl rfl rfl rfl rfl rfl rfl rfl rfl rfl rfl rfl rfl ?_)
          refine bd h1 fun r34 e35 h1 => oK (target_Check_ok _ ([([97, 46, 98] : Bytes)]) _ e35) rfl ⟨sr, trivial⟩ Tryz.call11 rfl (nx 3 rfl ?_)
          refine fD [80, 81, 82] h1 rfl (fun c36 h1 => ?_) fun c36 h1 => ?_
          ·refine mO rfl (op_bslice eS [([] : Bytes)] rfl rfl rfl rfl rfl rfl rfl rfl rfl rfl rfl rfl rfl rfl ?_)
           refine bd h1 fun r37 e38 h1 => oK (target_Check_ok _ ([([] : Bytes)]) _ e38) rfl ⟨sr, trivial⟩ Tryz.call11 rfl (nx 4 rfl ?_)
           exact eX _ (oi h1).symm (gE rfl rfl)
          exact nx 6 rfl (eX _ (oi h1).symm (gE rfl rfl))
         exact nx 11 rfl (eX _ (oi h1).symm (gE rfl rfl))
        exact nx 16 rfl (eX _ (oi h1).symm (gE rfl rfl))
       exact nx 20 rfl (eX _ (oi h1).symm (gE rfl rfl))
      exact nx 25 rfl (eX _ (oi h1).symm (gE rfl rfl))
     exact nx 31 rfl (eX _ (oi h1).symm (gE rfl rfl))
    exact nx 38 rfl (eX _ (oi h1).symm (gE rfl rfl))
   exact nx 43 rfl (eX _ (oi h1).symm (gE rfl rfl))
  exact nx 50 rfl (eX _ (oi h1).symm (gE rfl rfl))
 exact nx 55 rfl (eX _ (oi h1).symm (gE rfl rfl))

def law42_short_l1 (l_0 : List Bytes) : Nat → Int → Option (Unit ⊕ Bool)
 | 0, _ => none
 | m + 1, i7 =>
 if i7 < (l_0.length : Int) then
  ck ((0 : Int) ≤ i7 ∧ i7 < (l_0.length : Int)) <|
  if 300 < ((lat l_0 i7).length : Int) then
   some (.inr false)
  else
   ck (inR (i7 + 1)) <|
   law42_short_l1 l_0 m (i7 + 1)
 else
  some (.inl ())

def law42_short (n : Nat) (l_0 : List Bytes) (most_1 : Int) : Option Bool :=
 if most_1 < (l_0.length : Int) then
  some false
 else
  jn (law42_short_l1 l_0 n 0) fun q13 =>
  some true

set_option maxHeartbeats 4000000 in
theorem law42_short_ok (n : Nat) (l_0 : List Bytes) (most_1 : Int) (r : Bool) (h0 : law42_short n l_0 most_1 = some r) : PCalls Tryz.prog 10 [eL eS l_0, eI most_1] (· = .p (eB r)) := by
 unfold law42_short at h0
 refine pbodyA good Tryz.func10 rfl rfl rfl fun w0 => mP (fun v : Bool => .p (eB v)) ?_
 refine nx 8 rfl (oLl (f := eS) rfl rfl ?_)
 refine nx 3 rfl (fD [9] h0 rfl (fun c1 h0 => ?_) fun c1 h0 => ?_)
 ·exact nx 6 rfl (mQ (oi h0) rfl (sr))
 refine nx 8 rfl ?_
 obtain ⟨o14, h1, hL0, hR0⟩ := jn_cut h0
 refine kEx 0 (fun v15 : Unit => o14 = .inl v15) (fun v15 => ⟨[], []⟩) (fun v15 hv => ?_) ?_
 ·have h0 := hL0 _ hv
  exact nx 6 rfl (mQ (oi h0) rfl (sr))
 refine lG (fun (q16 : Int) => ⟨[(0, .p (eL eS l_0)), (5, .p (eI q16))], []⟩) (fun m (q16 : Int) => law42_short_l1 l_0 m q16) (fun _ => rfl) 0 h1 (gE rfl rfl) ?_
 rintro m i7 h1
 replace h1 : law42_short_l1 l_0 (m + 1) i7 = some o14 := h1
 rw [law42_short_l1] at h1
 refine nx 5 rfl (oLl (f := eS) rfl rfl ?_)
 refine nx 2 rfl (fD [13] h1 rfl (fun c8 h1 => ?_) fun c8 h1 => ?_)
 ·refine nx 8 rfl (oE h1 (fun _ => rfl) rfl rfl (fun _ => rfl) fun hk9 h1 => ?_)
  refine nx 1 rfl (oLs rfl ?_)
  refine nx 2 rfl (fD [21] h1 rfl (fun c10 h1 => ?_) fun c10 h1 => ?_)
  ·exact nx 6 rfl (mQ (hR0 _ (oi h1).symm) rfl (sr))
  refine nx 4 rfl (oA h1 rfl rfl fun hk11 h1 => ?_)
  exact nx 2 rfl (eX (i7 + 1) h1 (gE rfl rfl))
 exact nx 2 rfl (eXi _ (oi h1).symm (gE rfl rfl))

def ref42_Check_l1 (targets_0 : List Bytes) : Nat → Int → Option (Unit ⊕ Int)
 | 0, _ => none
 | m + 1, i8 =>
 if i8 < (targets_0.length : Int) then
  ck ((0 : Int) ≤ i8 ∧ i8 < (targets_0.length : Int)) <|
  ck ((lat targets_0 i8).length ≤ 65536) <|
  if Glob.rcheck (lat targets_0 i8) = 0 then
   ck (inR (i8 + 1)) <|
   ref42_Check_l1 targets_0 m (i8 + 1)
  else
   some (.inr (Glob.rcheck (lat targets_0 i8)))
 else
  some (.inl ())

def ref42_Check (n : Nat) (targets_0 : List Bytes) : Option Int :=
 if 64 < (targets_0.length : Int) then
  some 14
 else
  jn (ref42_Check_l1 targets_0 n 0) fun q15 =>
  some 0

set_option maxHeartbeats 4000000 in
theorem ref42_Check_ok (n : Nat) (targets_0 : List Bytes) (r : Int) (h0 : ref42_Check n targets_0 = some r) : PCalls Tryz.prog 12 [eL eS targets_0] (· = .p (eI r)) := by
 unfold ref42_Check at h0
 refine pbodyA good Tryz.func12 rfl rfl rfl fun w0 => mP (fun v : Int => .p (eI v)) ?_
 refine nx 8 rfl (oLl (f := eS) rfl rfl ?_)
 refine nx 2 rfl (fD [7] h0 rfl (fun c1 h0 => ?_) fun c1 h0 => ?_)
 ·exact nx 6 rfl (mQ (oi h0) rfl (sr))
 refine nx 8 rfl ?_
 obtain ⟨o16, h1, hL0, hR0⟩ := jn_cut h0
 refine kEx 0 (fun v17 : Unit => o16 = .inl v17) (fun v17 => ⟨[], []⟩) (fun v17 hv => ?_) ?_
 ·have h0 := hL0 _ hv
  exact nx 6 rfl (mQ (oi h0) rfl (sr))
 refine lG (fun (q18 : Int) => ⟨[(0, .p (eL eS targets_0)), (3, .p (eI q18))], []⟩) (fun m (q18 : Int) => ref42_Check_l1 targets_0 m q18) (fun _ => rfl) 0 h1 (gE rfl rfl) ?_
 rintro m i8 h1
 replace h1 : ref42_Check_l1 targets_0 (m + 1) i8 = some o16 := h1
 rw [ref42_Check_l1] at h1
 refine nx 5 rfl (oLl (f := eS) rfl rfl ?_)
 refine nx 2 rfl (fD [11] h1 rfl (fun c9 h1 => ?_) fun c9 h1 => ?_)
 ·refine nx 8 rfl (oE h1 (fun _ => rfl) rfl rfl (fun _ => rfl) fun hk10 h1 => ?_)
  refine nx 1 rfl (cc' h1 fun hk11 h1 => ?_)
  refine oK (Glob.rcheck_ok (lat targets_0 i8) hk11) rfl ⟨sr, trivial⟩ Tryz.call29 rfl (nx 7 rfl ?_)
  refine fN [20] h1 rfl (fun c12 h1 => ?_) fun c12 h1 => ?_
  ·refine nx 4 rfl (oA h1 rfl rfl fun hk13 h1 => ?_)
   exact nx 2 rfl (eX (i8 + 1) h1 (gE rfl rfl))
  exact nx 7 rfl (mQ (hR0 _ (oi h1).symm) rfl (sr))
 exact nx 2 rfl (eXi _ (oi h1).symm (gE rfl rfl))

def law42_few_l1 (n : Nat) (l_1 : List TChange) : Nat → Int → Option (Unit ⊕ Bool)
 | 0, _ => none
 | m + 1, i23 =>
 if i23 < (l_1.length : Int) then
  (
    ck ((0 : Int) ≤ i23 ∧ i23 < (l_1.length : Int)) <|
    if 300 < (((lat l_1 i23).fAddr).length : Int) then
     some true
    else
     ck ((0 : Int) ≤ i23 ∧ i23 < (l_1.length : Int)) <|
     (law42_short n ((lat l_1 i23).fDeps) 10).bind fun r28 =>
     if (!r28) = true then
      some true
     else
      ck ((0 : Int) ≤ i23 ∧ i23 < (l_1.length : Int)) <|
      (law42_short n ((lat l_1 i23).fOldDeps) 10).bind fun r32 =>
      some (!r32)
   : Option Bool).bind fun t34 =>
  if t34 = true then
   some (.inr false)
  else
   ck (inR (i23 + 1)) <|
   law42_few_l1 n l_1 m (i23 + 1)
 else
  some (.inl ())

def law42_few (n : Nat) (targets_0 : List Bytes) (l_1 : List TChange) : Option Bool :=
 (
   (law42_short n targets_0 16).bind fun r1 =>
   if (!r1) = true then
    some true
   else
    (ref42_Check n targets_0).bind fun r4 =>
    if r4 = 0 then
     some (decide (20 < (l_1.length : Int)))
    else
     some true
  : Option Bool).bind fun t7 =>
 if t7 = true then
  some false
 else
  jn (law42_few_l1 n l_1 n 0) fun q39 =>
  some true

set_option maxHeartbeats 4000000 in
theorem law42_few_ok (n : Nat) (targets_0 : List Bytes) (l_1 : List TChange) (r : Bool) (h0 : law42_few n targets_0 l_1 = some r) : PCalls Tryz.prog 14 [eL eS targets_0, eL eTChange l_1] (· = .p (eB r)) := by
 unfold law42_few at h0
 refine pbodyA good Tryz.func14 rfl rfl rfl fun w0 => mP (fun v : Bool => .p (eB v)) ?_
 refine nx 6 rfl (bd h0 fun o41 h1 h0 => ?_)
 refine kN o41 (fun v42 => ⟨[(1, .p (eL eTChange l_1)), (18, .p (eB v42))], []⟩) ?_ ?_
 ·refine nx 1 rfl (fB [18] h0 rfl (fun c8 h0 => ?_) fun c8 h0 => ?_)
  ·exact nx 6 rfl (mQ (oi h0) rfl (sr))
  refine nx 8 rfl ?_
  obtain ⟨o43, h1, hL0, hR0⟩ := jn_cut h0
  refine kEx 0 (fun v44 : Unit => o43 = .inl v44) (fun v44 => ⟨[], []⟩) (fun v44 hv => ?_) ?_
  ·have h0 := hL0 _ hv
   exact nx 6 rfl (mQ (oi h0) rfl (sr))
  refine lG (fun (q45 : Int) => ⟨[(1, .p (eL eTChange l_1)), (5, .p (eI q45))], []⟩) (fun m (q45 : Int) => law42_few_l1 n l_1 m q45) (fun _ => rfl) 0 h1 (gE rfl rfl) ?_
  rintro m i23 h1
  replace h1 : law42_few_l1 n l_1 (m + 1) i23 = some o43 := h1
  rw [law42_few_l1] at h1
  refine nx 5 rfl (oLl (f := eTChange) rfl rfl ?_)
  refine nx 2 rfl (fD [22] h1 rfl (fun c24 h1 => ?_) fun c24 h1 => ?_)
  ·refine nx 5 rfl (bd h1 fun o46 h2 h1 => ?_)
   refine kN o46 (fun v47 => ⟨[(1, .p (eL eTChange l_1)), (5, .p (eI i23)), (49, .p (eB v47))], []⟩) ?_ ?_
   ·refine nx 1 rfl (fB [49] h1 rfl (fun c35 h1 => ?_) fun c35 h1 => ?_)
    ·exact nx 6 rfl (mQ (hR0 _ (oi h1).symm) rfl (sr))
    refine nx 4 rfl (oA h1 rfl rfl fun hk36 h1 => ?_)
    exact nx 2 rfl (eX (i23 + 1) h1 (gE rfl rfl))
   refine nx 3 rfl (oE h2 TChange.cells_eq rfl rfl (fun _ => rfl) fun hk25 h2 => ?_)
   refine nx 2 rfl (oLs rfl ?_)
   refine nx 2 rfl (fD [31, 32] h2 rfl (fun c26 h2 => ?_) fun c26 h2 => ?_)
   ·exact nx 18 rfl (eX _ (oi h2).symm (gE rfl rfl))
   refine nx 2 rfl (oE h2 TChange.cells_eq rfl rfl (fun _ => rfl) fun hk27 h2 => ?_)
   refine nx 2 rfl (bd h2 fun r28 e29 h2 => ?_)
   refine oK (law42_short_ok _ ((lat l_1 i23).fDeps) 10 _ e29) rfl ⟨sr, sr, trivial⟩ Tryz.call10 rfl (nx 3 rfl ?_)
   refine fB [39, 40, 41] h2 rfl (fun c30 h2 => ?_) fun c30 h2 => ?_
   ·exact nx 9 rfl (eX _ (oi h2).symm (gE rfl rfl))
   refine nx 2 rfl (oE h2 TChange.cells_eq rfl rfl (fun _ => rfl) fun hk31 h2 => ?_)
   refine nx 2 rfl (bd h2 fun r32 e33 h2 => ?_)
   refine oK (law42_short_ok _ ((lat l_1 i23).fOldDeps) 10 _ e33) rfl ⟨sr, sr, trivial⟩ Tryz.call10 rfl (nx 3 rfl ?_)
   exact eX _ (oi h2).symm (gE rfl rfl)
  exact nx 2 rfl (eXi _ (oi h1).symm (gE rfl rfl))
 refine nx 2 rfl (bd h1 fun r1 e2 h1 => ?_)
 refine oK (law42_short_ok _ targets_0 16 _ e2) rfl ⟨sr, sr, trivial⟩ Tryz.call10 rfl (nx 2 rfl ?_)
 refine fB [8, 9] h1 rfl (fun c3 h1 => ?_) fun c3 h1 => ?_
 ·exact nx 10 rfl (eX _ (oi h1).symm (gE rfl rfl))
 refine nx 1 rfl (bd h1 fun r4 e5 h1 => ?_)
 refine oK (ref42_Check_ok _ targets_0 _ e5) rfl ⟨sr, trivial⟩ Tryz.call12 rfl (nx 3 rfl ?_)
 refine fN [12, 13, 14] h1 rfl (fun c6 h1 => ?_) fun c6 h1 => ?_
 ·refine nx 1 rfl (oLl (f := eTChange) rfl rfl ?_)
  exact nx 3 rfl (eX _ (oi h1).symm (gE rfl rfl))
 exact nx 5 rfl (eX _ (oi h1).symm (gE rfl rfl))

def law42_has_l1 (l_0 : List Bytes) (s_1 : Bytes) : Nat → Int → Option (Unit ⊕ Bool)
 | 0, _ => none
 | m + 1, i6 =>
 if i6 < (l_0.length : Int) then
  ck ((0 : Int) ≤ i6 ∧ i6 < (l_0.length : Int)) <|
  if lat l_0 i6 = s_1 then
   some (.inr true)
  else
   ck (inR (i6 + 1)) <|
   law42_has_l1 l_0 s_1 m (i6 + 1)
 else
  some (.inl ())

def law42_has (n : Nat) (l_0 : List Bytes) (s_1 : Bytes) : Option Bool :=
 jn (law42_has_l1 l_0 s_1 n 0) fun q12 =>
 some false

set_option maxHeartbeats 4000000 in
theorem law42_has_ok (n : Nat) (l_0 : List Bytes) (s_1 : Bytes) (r : Bool) (h0 : law42_has n l_0 s_1 = some r) : PCalls Tryz.prog 19 [eL eS l_0, eS s_1] (· = .p (eB r)) := by
 unfold law42_has at h0
 refine pbodyA good Tryz.func19 rfl rfl rfl fun w0 => mP (fun v : Bool => .p (eB v)) ?_
 refine nx 10 rfl ?_
 obtain ⟨o13, h1, hL0, hR0⟩ := jn_cut h0
 refine kEx 0 (fun v14 : Unit => o13 = .inl v14) (fun v14 => ⟨[], []⟩) (fun v14 hv => ?_) ?_
 ·have h0 := hL0 _ hv
  exact nx 6 rfl (mQ (oi h0) rfl (sr))
 refine lG (fun (q15 : Int) => ⟨[(0, .p (eL eS l_0)), (1, .p (eS s_1)), (5, .p (eI q15))], []⟩) (fun m (q15 : Int) => law42_has_l1 l_0 s_1 m q15) (fun _ => rfl) 0 h1 (gE rfl rfl) ?_
 rintro m i6 h1
 replace h1 : law42_has_l1 l_0 s_1 (m + 1) i6 = some o13 := h1
 rw [law42_has_l1] at h1
 refine nx 5 rfl (oLl (f := eS) rfl rfl ?_)
 refine nx 2 rfl (fD [9] h1 rfl (fun c7 h1 => ?_) fun c7 h1 => ?_)
 ·refine nx 8 rfl (oE h1 (fun _ => rfl) rfl rfl (fun _ => rfl) fun hk8 h1 => ?_)
  refine nx 2 rfl (oS rfl rfl ?_)
  refine nx 1 rfl (fD [17] h1 rfl (fun c9 h1 => ?_) fun c9 h1 => ?_)
  ·exact nx 6 rfl (mQ (hR0 _ (oi h1).symm) rfl (sr))
  refine nx 4 rfl (oA h1 rfl rfl fun hk10 h1 => ?_)
  exact nx 2 rfl (eX (i6 + 1) h1 (gE rfl rfl))
 exact nx 2 rfl (eXi _ (oi h1).symm (gE rfl rfl))

def law42_strings_l1 (a_0 : List Bytes) (b_1 : List Bytes) : Nat → Int → Option (Unit ⊕ Bool)
 | 0, _ => none
 | m + 1, i8 =>
 if i8 < (a_0.length : Int) then
  ck ((0 : Int) ≤ i8 ∧ i8 < (a_0.length : Int)) <|
  ck ((0 : Int) ≤ i8 ∧ i8 < (b_1.length : Int)) <|
  if lat a_0 i8 = lat b_1 i8 then
   ck (inR (i8 + 1)) <|
   law42_strings_l1 a_0 b_1 m (i8 + 1)
  else
   some (.inr false)
 else
  some (.inl ())

def law42_strings (n : Nat) (a_0 : List Bytes) (b_1 : List Bytes) : Option Bool :=
 if (a_0.length : Int) = (b_1.length : Int) then
  jn (law42_strings_l1 a_0 b_1 n 0) fun q15 =>
  some true
 else
  some false

set_option maxHeartbeats 4000000 in
theorem law42_strings_ok (n : Nat) (a_0 : List Bytes) (b_1 : List Bytes) (r : Bool) (h0 : law42_strings n a_0 b_1 = some r) : PCalls Tryz.prog 20 [eL eS a_0, eL eS b_1] (· = .p (eB r)) := by
 unfold law42_strings at h0
 refine pbodyA good Tryz.func20 rfl rfl rfl fun w0 => mP (fun v : Bool => .p (eB v)) ?_
 refine nx 8 rfl (oLl (f := eS) rfl rfl ?_)
 refine nx 1 rfl (oLl (f := eS) rfl rfl ?_)
 refine nx 2 rfl (fN [10] h0 rfl (fun c1 h0 => ?_) fun c1 h0 => ?_)
 ·refine nx 8 rfl ?_
  obtain ⟨o16, h1, hL0, hR0⟩ := jn_cut h0
  refine kEx 0 (fun v17 : Unit => o16 = .inl v17) (fun v17 => ⟨[], []⟩) (fun v17 hv => ?_) ?_
  ·have h0 := hL0 _ hv
   exact nx 6 rfl (mQ (oi h0) rfl (sr))
  refine lG (fun (q18 : Int) => ⟨[(0, .p (eL eS a_0)), (1, .p (eL eS b_1)), (5, .p (eI q18))], []⟩) (fun m (q18 : Int) => law42_strings_l1 a_0 b_1 m q18) (fun _ => rfl) 0 h1 (gE rfl rfl) ?_
  rintro m i8 h1
  replace h1 : law42_strings_l1 a_0 b_1 (m + 1) i8 = some o16 := h1
  rw [law42_strings_l1] at h1
  refine nx 5 rfl (oLl (f := eS) rfl rfl ?_)
  refine nx 2 rfl (fD [14] h1 rfl (fun c9 h1 => ?_) fun c9 h1 => ?_)
  ·refine nx 5 rfl (cc' h1 fun hk10 h1 => ?_)
   refine cc' h1 fun hk11 h1 => mD [(0, .p (eL eS a_0)), (1, .p (eL eS b_1)), (5, .p (eI i8))] rfl ⟨rfl, rfl, rfl, trivial⟩ rfl (dR 2 rfl ?_)
   refine dq (.rptr [eS (lat a_0 i8)]) [17,18] rfl (fun _ e _ q => one_op rfl (op_at (f := eS) (l := a_0) (fun x => [eS x]) rfl rfl rfl rfl rfl rfl (e _ _ rfl) rfl (e _ _ rfl) hk10 (fun _ => rfl) (fun _ => rfl) q)) rfl (dR 3 rfl ?_)
   refine dq (.rptr [eS (lat b_1 i8)]) [21,22] rfl (fun _ e _ q => one_op rfl (op_at (f := eS) (l := b_1) (fun x => [eS x]) rfl rfl rfl rfl rfl rfl (e _ _ rfl) rfl (e _ _ rfl) hk11 (fun _ => rfl) (fun _ => rfl) q)) rfl (dR 1 rfl ?_)
   refine dq (.p (eB (!decide (lat a_0 i8 = lat b_1 i8)))) [20,24] rfl (fun _ e _ q => one_op rfl (ok_cmpS rfl rfl rfl (e _ _ rfl) (e _ _ rfl) rfl q)) rfl (dE rfl ?_)
   refine nx 1 rfl (fN [25] h1 rfl (fun c12 h1 => ?_) fun c12 h1 => ?_)
   ·refine nx 4 rfl (oA h1 rfl rfl fun hk13 h1 => ?_)
    exact nx 2 rfl (eX (i8 + 1) h1 (gE rfl rfl))
   exact nx 6 rfl (mQ (hR0 _ (oi h1).symm) rfl (sr))
  exact nx 2 rfl (eXi _ (oi h1).symm (gE rfl rfl))
 exact nx 6 rfl (mQ (oi h0) rfl (sr))

def law42_equal_l1 (n : Nat) (a_0 : List TChange) (b_1 : List TChange) : Nat → Int → Option (Unit ⊕ Bool)
 | 0, _ => none
 | m + 1, i25 =>
 if i25 < (a_0.length : Int) then
  (
    ck ((0 : Int) ≤ i25 ∧ i25 < (a_0.length : Int)) <|
    ck ((0 : Int) ≤ i25 ∧ i25 < (b_1.length : Int)) <|
    if (lat a_0 i25).fAddr = (lat b_1 i25).fAddr then
     ck ((0 : Int) ≤ i25 ∧ i25 < (a_0.length : Int)) <|
     ck ((0 : Int) ≤ i25 ∧ i25 < (b_1.length : Int)) <|
     if (lat a_0 i25).fDeposed = (lat b_1 i25).fDeposed then
      ck ((0 : Int) ≤ i25 ∧ i25 < (a_0.length : Int)) <|
      ck ((0 : Int) ≤ i25 ∧ i25 < (b_1.length : Int)) <|
      if (lat a_0 i25).fAction = (lat b_1 i25).fAction then
       ck ((0 : Int) ≤ i25 ∧ i25 < (a_0.length : Int)) <|
       ck ((0 : Int) ≤ i25 ∧ i25 < (b_1.length : Int)) <|
       (law42_strings n ((lat a_0 i25).fDeps) ((lat b_1 i25).fDeps)).bind fun r38 =>
       if (!r38) = true then
        some true
       else
        ck ((0 : Int) ≤ i25 ∧ i25 < (a_0.length : Int)) <|
        ck ((0 : Int) ≤ i25 ∧ i25 < (b_1.length : Int)) <|
        (law42_strings n ((lat a_0 i25).fOldDeps) ((lat b_1 i25).fOldDeps)).bind fun r43 =>
        some (!r43)
      else
       some true
     else
      some true
    else
     some true
   : Option Bool).bind fun t45 =>
  if t45 = true then
   some (.inr false)
  else
   ck (inR (i25 + 1)) <|
   law42_equal_l1 n a_0 b_1 m (i25 + 1)
 else
  some (.inl ())

def law42_equal (n : Nat) (a_0 : List TChange) (b_1 : List TChange) : Option Bool :=
 if (a_0.length : Int) = (b_1.length : Int) then
  jn (law42_equal_l1 n a_0 b_1 n 0) fun q49 =>
  some true
 else
  some false

set_option maxHeartbeats 4000000 in
theorem law42_equal_ok (n : Nat) (a_0 : List TChange) (b_1 : List TChange) (r : Bool) (h0 : law42_equal n a_0 b_1 = some r) : PCalls Tryz.prog 22 [eL eTChange a_0, eL eTChange b_1] (· = .p (eB r)) := by
 unfold law42_equal at h0
 refine pbodyA good Tryz.func22 rfl rfl rfl fun w0 => mP (fun v : Bool => .p (eB v)) ?_
 refine nx 8 rfl (oLl (f := eTChange) rfl rfl ?_)
 refine nx 1 rfl (oLl (f := eTChange) rfl rfl ?_)
 refine nx 2 rfl (fN [10] h0 rfl (fun c1 h0 => ?_) fun c1 h0 => ?_)
 ·refine nx 8 rfl ?_
  obtain ⟨o51, h1, hL0, hR0⟩ := jn_cut h0
  refine kEx 0 (fun v52 : Unit => o51 = .inl v52) (fun v52 => ⟨[], []⟩) (fun v52 hv => ?_) ?_
  ·have h0 := hL0 _ hv
   exact nx 6 rfl (mQ (oi h0) rfl (sr))
  refine lG (fun (q53 : Int) => ⟨[(0, .p (eL eTChange a_0)), (1, .p (eL eTChange b_1)), (5, .p (eI q53))], []⟩) (fun m (q53 : Int) => law42_equal_l1 n a_0 b_1 m q53) (fun _ => rfl) 0 h1 (gE rfl rfl) ?_
  rintro m i25 h1
  replace h1 : law42_equal_l1 n a_0 b_1 (m + 1) i25 = some o51 := h1
  rw [law42_equal_l1] at h1
  refine nx 5 rfl (oLl (f := eTChange) rfl rfl ?_)
  refine nx 2 rfl (fD [14] h1 rfl (fun c26 h1 => ?_) fun c26 h1 => ?_)
  ·refine nx 5 rfl (bd h1 fun o54 h2 h1 => ?_)
   refine kN o54 (fun v55 => ⟨[(0, .p (eL eTChange a_0)), (1, .p (eL eTChange b_1)), (5, .p (eI i25)), (81, .p (eB v55))], []⟩) ?_ ?_
   ·refine nx 1 rfl (fB [81] h1 rfl (fun c46 h1 => ?_) fun c46 h1 => ?_)
    ·exact nx 6 rfl (mQ (hR0 _ (oi h1).symm) rfl (sr))
    refine nx 4 rfl (oA h1 rfl rfl fun hk47 h1 => ?_)
    exact nx 2 rfl (eX (i25 + 1) h1 (gE rfl rfl))
   refine cc' h2 fun hk27 h2 => cc' h2 fun hk28 h2 => fN (p := (lat a_0 i25).fAddr = (lat b_1 i25).fAddr) [] h2 rfl (fun c29 h2 => ?_) fun c29 h2 => ?_
   ·refine cc' h2 fun hk30 h2 => cc' h2 fun hk31 h2 => fN (p := (lat a_0 i25).fDeposed = (lat b_1 i25).fDeposed) [] h2 rfl (fun c32 h2 => ?_) fun c32 h2 => ?_
    ·refine cc' h2 fun hk33 h2 => cc' h2 fun hk34 h2 => fN (p := (lat a_0 i25).fAction = (lat b_1 i25).fAction) [] h2 rfl (fun c35 h2 => ?_) fun c35 h2 => ?_
     ·refine cc' h2 fun hk36 h2 => cc' h2 fun hk37 h2 => bd h2 fun r38 e39 h2 => fB (p := !r38) [] h2 rfl (fun c40 h2 => ?_) fun c40 h2 => ?_
      ·refine mD [(0, .p (eL eTChange a_0)), (1, .p (eL eTChange b_1)), (5, .p (eI i25))] rfl ⟨rfl, rfl, rfl, trivial⟩ rfl (dR 2 rfl ?_)
       refine dq (.rptr (TChange.cs (lat a_0 i25))) [17,18] rfl (fun _ e _ q => one_op rfl (op_at (f := eTChange) (l := a_0) TChange.cs rfl rfl rfl rfl rfl rfl (e _ _ rfl) rfl (e _ _ rfl) hk27 TChange.cells_eq (fun _ => rfl) q)) rfl (dR 4 rfl ?_)
       refine dq (.rptr (TChange.cs (lat b_1 i25))) [22,23] rfl (fun _ e _ q => one_op rfl (op_at (f := eTChange) (l := b_1) TChange.cs rfl rfl rfl rfl rfl rfl (e _ _ rfl) rfl (e _ _ rfl) hk28 TChange.cells_eq (fun _ => rfl) q)) rfl (dR 2 rfl ?_)
       refine dq (.p (eB (!decide ((lat a_0 i25).fAddr = (lat b_1 i25).fAddr)))) [21,26] rfl (fun _ e _ q => one_op rfl (ok_cmpS rfl rfl rfl (e _ _ rfl) (e _ _ rfl) rfl q)) rfl (dL (nd_false c29) rfl ?_)
       refine dR 2 rfl (dq (.rptr (TChange.cs (lat a_0 i25))) [28,29,30] rfl (fun _ e _ q => one_yes (op_at (f := eTChange) (l := a_0) TChange.cs rfl rfl rfl rfl rfl rfl (e _ _ rfl) rfl (e _ _ rfl) hk30 TChange.cells_eq (fun _ => rfl) q) rfl rfl (e _ _ rfl) (rfl)) rfl ?_)
       refine dR 4 rfl (dq (.rptr (TChange.cs (lat b_1 i25))) [28,34,35] rfl (fun _ e _ q => one_yes (op_at (f := eTChange) (l := b_1) TChange.cs rfl rfl rfl rfl rfl rfl (e _ _ rfl) rfl (e _ _ rfl) hk31 TChange.cells_eq (fun _ => rfl) q) rfl rfl (e _ _ rfl) (rfl)) rfl ?_)
       refine dR 2 rfl (dq (.p (eB (!decide ((lat a_0 i25).fDeposed = (lat b_1 i25).fDeposed)))) [28,33,38] rfl (fun _ e _ q => one_yes (ok_cmpS rfl rfl rfl (e _ _ rfl) (e _ _ rfl) rfl q) rfl rfl (e _ _ rfl) (rfl)) rfl ?_)
       refine dL (nd_false c32) rfl (dR 3 rfl ?_)
       refine dq (.rptr (TChange.cs (lat a_0 i25))) [41,42,43] rfl (fun _ e _ q => one_yes (op_at (f := eTChange) (l := a_0) TChange.cs rfl rfl rfl rfl rfl rfl (e _ _ rfl) rfl (e _ _ rfl) hk33 TChange.cells_eq (fun _ => rfl) q) rfl rfl (e _ _ rfl) (rfl)) rfl (dR 4 rfl ?_)
       refine dq (.rptr (TChange.cs (lat b_1 i25))) [41,47,48] rfl (fun _ e _ q => one_yes (op_at (f := eTChange) (l := b_1) TChange.cs rfl rfl rfl rfl rfl rfl (e _ _ rfl) rfl (e _ _ rfl) hk34 TChange.cells_eq (fun _ => rfl) q) rfl rfl (e _ _ rfl) (rfl)) rfl (dR 2 rfl ?_)
       refine dL (nd_false c35) rfl (dR 4 rfl ?_)
       refine dq (.rptr (TChange.cs (lat a_0 i25))) [54,55,56] rfl (fun _ e _ q => one_yes (op_at (f := eTChange) (l := a_0) TChange.cs rfl rfl rfl rfl rfl rfl (e _ _ rfl) rfl (e _ _ rfl) hk36 TChange.cells_eq (fun _ => rfl) q) rfl rfl (e _ _ rfl) (rfl)) rfl (dR 4 rfl ?_)
       refine dq (.rptr (TChange.cs (lat b_1 i25))) [54,60,61] rfl (fun _ e _ q => one_yes (op_at (f := eTChange) (l := b_1) TChange.cs rfl rfl rfl rfl rfl rfl (e _ _ rfl) rfl (e _ _ rfl) hk37 TChange.cells_eq (fun _ => rfl) q) rfl rfl (e _ _ rfl) (rfl)) rfl (dR 2 rfl ?_)
       refine dq (.p (eB r38)) [54,59,64] rfl (fun _ e _ q => one_yes (ok_callP (law42_strings_ok _ ((lat a_0 i25).fDeps) ((lat b_1 i25).fDeps) _ e39) rfl rfl rfl (args_cons (e _ _ rfl) (args_cons (e _ _ rfl) args_nil)) ⟨sr, sr, trivial⟩ Tryz.call20 rfl q) rfl rfl (e _ _ rfl) (rfl)) rfl (dL (c40) rfl ?_)
       refine dR 15 rfl (dE rfl ?_)
       exact nx 1 rfl (eX _ (oi h2).symm (gE rfl rfl))
      refine cc' h2 fun hk41 h2 => cc' h2 fun hk42 h2 => bd h2 fun r43 e44 h2 => mD [(0, .p (eL eTChange a_0)), (1, .p (eL eTChange b_1)), (5, .p (eI i25))] rfl ⟨rfl, rfl, rfl, trivial⟩ rfl (dR 2 rfl ?_)
      refine dq (.rptr (TChange.cs (lat a_0 i25))) [17,18] rfl (fun _ e _ q => one_op rfl (op_at (f := eTChange) (l := a_0) TChange.cs rfl rfl rfl rfl rfl rfl (e _ _ rfl) rfl (e _ _ rfl) hk27 TChange.cells_eq (fun _ => rfl) q)) rfl (dR 4 rfl ?_)
      refine dq (.rptr (TChange.cs (lat b_1 i25))) [22,23] rfl (fun _ e _ q => one_op rfl (op_at (f := eTChange) (l := b_1) TChange.cs rfl rfl rfl rfl rfl rfl (e _ _ rfl) rfl (e _ _ rfl) hk28 TChange.cells_eq (fun _ => rfl) q)) rfl (dR 2 rfl ?_)
      refine dq (.p (eB (!decide ((lat a_0 i25).fAddr = (lat b_1 i25).fAddr)))) [21,26] rfl (fun _ e _ q => one_op rfl (ok_cmpS rfl rfl rfl (e _ _ rfl) (e _ _ rfl) rfl q)) rfl (dL (nd_false c29) rfl ?_)
      refine dR 2 rfl (dq (.rptr (TChange.cs (lat a_0 i25))) [28,29,30] rfl (fun _ e _ q => one_yes (op_at (f := eTChange) (l := a_0) TChange.cs rfl rfl rfl rfl rfl rfl (e _ _ rfl) rfl (e _ _ rfl) hk30 TChange.cells_eq (fun _ => rfl) q) rfl rfl (e _ _ rfl) (rfl)) rfl ?_)
      refine dR 4 rfl (dq (.rptr (TChange.cs (lat b_1 i25))) [28,34,35] rfl (fun _ e _ q => one_yes (op_at (f := eTChange) (l := b_1) TChange.cs rfl rfl rfl rfl rfl rfl (e _ _ rfl) rfl (e _ _ rfl) hk31 TChange.cells_eq (fun _ => rfl) q) rfl rfl (e _ _ rfl) (rfl)) rfl ?_)
      refine dR 2 rfl (dq (.p (eB (!decide ((lat a_0 i25).fDeposed = (lat b_1 i25).fDeposed)))) [28,33,38] rfl (fun _ e _ q => one_yes (ok_cmpS rfl rfl rfl (e _ _ rfl) (e _ _ rfl) rfl q) rfl rfl (e _ _ rfl) (rfl)) rfl ?_)
      refine dL (nd_false c32) rfl (dR 3 rfl ?_)
      refine dq (.rptr (TChange.cs (lat a_0 i25))) [41,42,43] rfl (fun _ e _ q => one_yes (op_at (f := eTChange) (l := a_0) TChange.cs rfl rfl rfl rfl rfl rfl (e _ _ rfl) rfl (e _ _ rfl) hk33 TChange.cells_eq (fun _ => rfl) q) rfl rfl (e _ _ rfl) (rfl)) rfl (dR 4 rfl ?_)
      refine dq (.rptr (TChange.cs (lat b_1 i25))) [41,47,48] rfl (fun _ e _ q => one_yes (op_at (f := eTChange) (l := b_1) TChange.cs rfl rfl rfl rfl rfl rfl (e _ _ rfl) rfl (e _ _ rfl) hk34 TChange.cells_eq (fun _ => rfl) q) rfl rfl (e _ _ rfl) (rfl)) rfl (dR 2 rfl ?_)
      refine dL (nd_false c35) rfl (dR 4 rfl ?_)
      refine dq (.rptr (TChange.cs (lat a_0 i25))) [54,55,56] rfl (fun _ e _ q => one_yes (op_at (f := eTChange) (l := a_0) TChange.cs rfl rfl rfl rfl rfl rfl (e _ _ rfl) rfl (e _ _ rfl) hk36 TChange.cells_eq (fun _ => rfl) q) rfl rfl (e _ _ rfl) (rfl)) rfl (dR 4 rfl ?_)
      refine dq (.rptr (TChange.cs (lat b_1 i25))) [54,60,61] rfl (fun _ e _ q => one_yes (op_at (f := eTChange) (l := b_1) TChange.cs rfl rfl rfl rfl rfl rfl (e _ _ rfl) rfl (e _ _ rfl) hk37 TChange.cells_eq (fun _ => rfl) q) rfl rfl (e _ _ rfl) (rfl)) rfl (dR 2 rfl ?_)
      refine dq (.p (eB r38)) [54,59,64] rfl (fun _ e _ q => one_yes (ok_callP (law42_strings_ok _ ((lat a_0 i25).fDeps) ((lat b_1 i25).fDeps) _ e39) rfl rfl rfl (args_cons (e _ _ rfl) (args_cons (e _ _ rfl) args_nil)) ⟨sr, sr, trivial⟩ Tryz.call20 rfl q) rfl rfl (e _ _ rfl) (rfl)) rfl (dL (c40) rfl ?_)
      refine dR 4 rfl (dq (.rptr (TChange.cs (lat a_0 i25))) [68,69,70] rfl (fun _ e _ q => one_yes (op_at (f := eTChange) (l := a_0) TChange.cs rfl rfl rfl rfl rfl rfl (e _ _ rfl) rfl (e _ _ rfl) hk41 TChange.cells_eq (fun _ => rfl) q) rfl rfl (e _ _ rfl) (rfl)) rfl ?_)
      refine dR 4 rfl (dq (.rptr (TChange.cs (lat b_1 i25))) [68,74,75] rfl (fun _ e _ q => one_yes (op_at (f := eTChange) (l := b_1) TChange.cs rfl rfl rfl rfl rfl rfl (e _ _ rfl) rfl (e _ _ rfl) hk42 TChange.cells_eq (fun _ => rfl) q) rfl rfl (e _ _ rfl) (rfl)) rfl ?_)
      refine dR 2 rfl (dq (.p (eB r43)) [68,73,78] rfl (fun _ e _ q => one_yes (ok_callP (law42_strings_ok _ ((lat a_0 i25).fOldDeps) ((lat b_1 i25).fOldDeps) _ e44) rfl rfl rfl (args_cons (e _ _ rfl) (args_cons (e _ _ rfl) args_nil)) ⟨sr, sr, trivial⟩ Tryz.call20 rfl q) rfl rfl (e _ _ rfl) (rfl)) rfl ?_)
      refine dR 2 rfl (dE rfl ?_)
      exact nx 1 rfl (eX _ (oi h2).symm (gE rfl rfl))
     refine mD [(0, .p (eL eTChange a_0)), (1, .p (eL eTChange b_1)), (5, .p (eI i25))] rfl ⟨rfl, rfl, rfl, trivial⟩ rfl (dR 2 rfl ?_)
     refine dq (.rptr (TChange.cs (lat a_0 i25))) [17,18] rfl (fun _ e _ q => one_op rfl (op_at (f := eTChange) (l := a_0) TChange.cs rfl rfl rfl rfl rfl rfl (e _ _ rfl) rfl (e _ _ rfl) hk27 TChange.cells_eq (fun _ => rfl) q)) rfl (dR 4 rfl ?_)
     refine dq (.rptr (TChange.cs (lat b_1 i25))) [22,23] rfl (fun _ e _ q => one_op rfl (op_at (f := eTChange) (l := b_1) TChange.cs rfl rfl rfl rfl rfl rfl (e _ _ rfl) rfl (e _ _ rfl) hk28 TChange.cells_eq (fun _ => rfl) q)) rfl (dR 2 rfl ?_)
     refine dq (.p (eB (!decide ((lat a_0 i25).fAddr = (lat b_1 i25).fAddr)))) [21,26] rfl (fun _ e _ q => one_op rfl (ok_cmpS rfl rfl rfl (e _ _ rfl) (e _ _ rfl) rfl q)) rfl (dL (nd_false c29) rfl ?_)
     refine dR 2 rfl (dq (.rptr (TChange.cs (lat a_0 i25))) [28,29,30] rfl (fun _ e _ q => one_yes (op_at (f := eTChange) (l := a_0) TChange.cs rfl rfl rfl rfl rfl rfl (e _ _ rfl) rfl (e _ _ rfl) hk30 TChange.cells_eq (fun _ => rfl) q) rfl rfl (e _ _ rfl) (rfl)) rfl ?_)
     refine dR 4 rfl (dq (.rptr (TChange.cs (lat b_1 i25))) [28,34,35] rfl (fun _ e _ q => one_yes (op_at (f := eTChange) (l := b_1) TChange.cs rfl rfl rfl rfl rfl rfl (e _ _ rfl) rfl (e _ _ rfl) hk31 TChange.cells_eq (fun _ => rfl) q) rfl rfl (e _ _ rfl) (rfl)) rfl ?_)
     refine dR 2 rfl (dq (.p (eB (!decide ((lat a_0 i25).fDeposed = (lat b_1 i25).fDeposed)))) [28,33,38] rfl (fun _ e _ q => one_yes (ok_cmpS rfl rfl rfl (e _ _ rfl) (e _ _ rfl) rfl q) rfl rfl (e _ _ rfl) (rfl)) rfl ?_)
     refine dL (nd_false c32) rfl (dR 3 rfl ?_)
     refine dq (.rptr (TChange.cs (lat a_0 i25))) [41,42,43] rfl (fun _ e _ q => one_yes (op_at (f := eTChange) (l := a_0) TChange.cs rfl rfl rfl rfl rfl rfl (e _ _ rfl) rfl (e _ _ rfl) hk33 TChange.cells_eq (fun _ => rfl) q) rfl rfl (e _ _ rfl) (rfl)) rfl (dR 4 rfl ?_)
     refine dq (.rptr (TChange.cs (lat b_1 i25))) [41,47,48] rfl (fun _ e _ q => one_yes (op_at (f := eTChange) (l := b_1) TChange.cs rfl rfl rfl rfl rfl rfl (e _ _ rfl) rfl (e _ _ rfl) hk34 TChange.cells_eq (fun _ => rfl) q) rfl rfl (e _ _ rfl) (rfl)) rfl (dR 2 rfl ?_)
     refine dL (nd_true c35) rfl (dR 29 rfl ?_)
     refine dE rfl (nx 1 rfl ?_)
     exact eX _ (oi h2).symm (gE rfl rfl)
    refine mD [(0, .p (eL eTChange a_0)), (1, .p (eL eTChange b_1)), (5, .p (eI i25))] rfl ⟨rfl, rfl, rfl, trivial⟩ rfl (dR 2 rfl ?_)
    refine dq (.rptr (TChange.cs (lat a_0 i25))) [17,18] rfl (fun _ e _ q => one_op rfl (op_at (f := eTChange) (l := a_0) TChange.cs rfl rfl rfl rfl rfl rfl (e _ _ rfl) rfl (e _ _ rfl) hk27 TChange.cells_eq (fun _ => rfl) q)) rfl (dR 4 rfl ?_)
    refine dq (.rptr (TChange.cs (lat b_1 i25))) [22,23] rfl (fun _ e _ q => one_op rfl (op_at (f := eTChange) (l := b_1) TChange.cs rfl rfl rfl rfl rfl rfl (e _ _ rfl) rfl (e _ _ rfl) hk28 TChange.cells_eq (fun _ => rfl) q)) rfl (dR 2 rfl ?_)
    refine dq (.p (eB (!decide ((lat a_0 i25).fAddr = (lat b_1 i25).fAddr)))) [21,26] rfl (fun _ e _ q => one_op rfl (ok_cmpS rfl rfl rfl (e _ _ rfl) (e _ _ rfl) rfl q)) rfl (dL (nd_false c29) rfl ?_)
    refine dR 2 rfl (dq (.rptr (TChange.cs (lat a_0 i25))) [28,29,30] rfl (fun _ e _ q => one_yes (op_at (f := eTChange) (l := a_0) TChange.cs rfl rfl rfl rfl rfl rfl (e _ _ rfl) rfl (e _ _ rfl) hk30 TChange.cells_eq (fun _ => rfl) q) rfl rfl (e _ _ rfl) (rfl)) rfl ?_)
    refine dR 4 rfl (dq (.rptr (TChange.cs (lat b_1 i25))) [28,34,35] rfl (fun _ e _ q => one_yes (op_at (f := eTChange) (l := b_1) TChange.cs rfl rfl rfl rfl rfl rfl (e _ _ rfl) rfl (e _ _ rfl) hk31 TChange.cells_eq (fun _ => rfl) q) rfl rfl (e _ _ rfl) (rfl)) rfl ?_)
    refine dR 2 rfl (dq (.p (eB (!decide ((lat a_0 i25).fDeposed = (lat b_1 i25).fDeposed)))) [28,33,38] rfl (fun _ e _ q => one_yes (ok_cmpS rfl rfl rfl (e _ _ rfl) (e _ _ rfl) rfl q) rfl rfl (e _ _ rfl) (rfl)) rfl ?_)
    refine dL (nd_true c32) rfl (dR 41 rfl ?_)
    refine dE rfl (nx 1 rfl ?_)
    exact eX _ (oi h2).symm (gE rfl rfl)
   refine mD [(0, .p (eL eTChange a_0)), (1, .p (eL eTChange b_1)), (5, .p (eI i25))] rfl ⟨rfl, rfl, rfl, trivial⟩ rfl (dR 2 rfl ?_)
   refine dq (.rptr (TChange.cs (lat a_0 i25))) [17,18] rfl (fun _ e _ q => one_op rfl (op_at (f := eTChange) (l := a_0) TChange.cs rfl rfl rfl rfl rfl rfl (e _ _ rfl) rfl (e _ _ rfl) hk27 TChange.cells_eq (fun _ => rfl) q)) rfl (dR 4 rfl ?_)
   refine dq (.rptr (TChange.cs (lat b_1 i25))) [22,23] rfl (fun _ e _ q => one_op rfl (op_at (f := eTChange) (l := b_1) TChange.cs rfl rfl rfl rfl rfl rfl (e _ _ rfl) rfl (e _ _ rfl) hk28 TChange.cells_eq (fun _ => rfl) q)) rfl (dR 2 rfl ?_)
   refine dq (.p (eB (!decide ((lat a_0 i25).fAddr = (lat b_1 i25).fAddr)))) [21,26] rfl (fun _ e _ q => one_op rfl (ok_cmpS rfl rfl rfl (e _ _ rfl) (e _ _ rfl) rfl q)) rfl (dL (nd_true c29) rfl ?_)
   refine dR 53 rfl (dE rfl ?_)
   exact nx 1 rfl (eX _ (oi h2).symm (gE rfl rfl))
  exact nx 2 rfl (eXi _ (oi h1).symm (gE rfl rfl))
 exact nx 6 rfl (mQ (oi h0) rfl (sr))

end Go.Ab.R06
