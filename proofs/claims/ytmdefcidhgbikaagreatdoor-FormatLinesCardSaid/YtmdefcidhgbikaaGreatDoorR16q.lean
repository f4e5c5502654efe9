/- Chapter 16. -/
import Derived.Test.YtmdefcidhgbikaaGreatDoorR16e
set_option linter.unusedVariables false
set_option linter.unusedSimpArgs false
set_option linter.unnecessarySimpa false
namespace Go.Ab.R06
open Go.Proofs Go.Ab Go.Ab.RB
attribute [local irreducible] awp rwpL OpOk PCalls OCalls AV.sub M Ghost
def ref14_left_l1 (r_ref14_left : TExpr → Int → Int → Option Int) (e_0 : TExpr) (levels_2 : Int) : Nat → Int → Int → Option Int
 | 0, _, _ => none
 | m + 1, nodes13, i14 =>
 (
   if i14 < (e_0.fKids.length : Int) then
    some (decide (0 ≤ nodes13))
   else
    some false
  : Option Bool).bind fun t16 =>
 if t16 = true then
  ck ((0 : Int) ≤ i14 ∧ i14 < (e_0.fKids.length : Int)) <|
  ck (inR (levels_2 - 1)) <|
  (r_ref14_left (lat e_0.fKids i14) nodes13 (levels_2 - 1)).bind fun r20 =>
  ck (inR (i14 + 1)) <|
  ref14_left_l1 r_ref14_left e_0 levels_2 m r20 (i14 + 1)
 else
  some nodes13
def ref14_left : Nat → TExpr → Int → Int → Option Int
 | 0, _, _, _ => none
 | n + 1, e_0, nodes_1, levels_2 =>
 if levels_2 ≤ 0 then
  some (-1)
 else
  ck (inR (nodes_1 - 1)) <|
  (ref14_left_l1 (ref14_left n) e_0 levels_2 n (nodes_1 - 1) 0).bind fun nodes25 =>
  some nodes25
set_option maxHeartbeats 4000000 in
theorem ref14_left_ok (n : Nat) : ∀ (e_0 : TExpr) (nodes_1 : Int) (levels_2 : Int) (r : Int), ref14_left n e_0 nodes_1 levels_2 = some r → PCalls Tryz.prog 71 [.agg (TExpr.cs e_0), eI nodes_1, eI levels_2] (· = .p (eI r)) := by
 induction n with
 | zero => intro e_0 nodes_1 levels_2 r h0; cases h0
 | succ n ih =>
 have ih_ref14_left_ok := ih
 intro e_0 nodes_1 levels_2 r h0
 rw [ref14_left] at h0
 refine pbodyA good Tryz.func71 rfl rfl rfl fun w0 => mP (fun v : Int => .p (eI v)) ?_
 refine nx 11 rfl (fD [9] h0 rfl (fun c1 h0 => ?_) fun c1 h0 => ?_)
 ·exact nx 6 rfl (mQ (oi h0) rfl (sr))
 refine nx 5 rfl (oA h0 rfl rfl fun hk2 h0 => ?_)
 refine nx 8 rfl (bd h0 fun o28 h1 h0 => ?_)
 refine kE 0 o28 (fun v29 => ⟨[(1, .p (eI v29))], []⟩) ?_ ?_
 ·exact nx 7 rfl (mQ (oi h0) rfl (sr))
 refine lG (fun (q30 : Int × Int) => ⟨[(1, .p (eI q30.1)), (2, .p (eI levels_2)), (3, .ptr 3 0), (7, .p (eI q30.2))], [(3, (TExpr.cs e_0).map .p)]⟩) (fun m (q30 : Int × Int) => ref14_left_l1 (ref14_left n) e_0 levels_2 m q30.1 q30.2) (fun _ => rfl) (nodes_1 - 1, 0) h1 (gE rfl rfl) ?_
 rintro m ⟨nodes13, i14⟩ h1
 replace h1 : ref14_left_l1 (ref14_left n) e_0 levels_2 (m + 1) nodes13 i14 = some o28 := h1
 rw [ref14_left_l1] at h1
 refine nx 2 rfl (bd h1 fun o31 h2 h1 => ?_)
 refine kN o31 (fun v32 => ⟨[(1, .p (eI nodes13)), (2, .p (eI levels_2)), (3, .ptr 3 0), (7, .p (eI i14)), (20, .p (eB v32))], [(3, (TExpr.cs e_0).map .p)]⟩) ?_ ?_
 ·refine nx 1 rfl (fB [20] h1 rfl (fun c17 h1 => ?_) fun c17 h1 => ?_)
  ·refine nx 8 rfl (oE h1 TExpr.cells_eq rfl rfl (fun _ => rfl) fun hk18 h1 => ?_)
   refine nx 3 rfl (oA h1 rfl rfl fun hk19 h1 => ?_)
   refine bd h1 fun r20 e21 h1 => oK (ih_ref14_left_ok (lat e_0.fKids i14) nodes13 (levels_2 - 1) _ e21) rfl ⟨sr, sr, sr, trivial⟩ Tryz.call71 rfl (nx 4 rfl ?_)
   exact oA h1 rfl rfl fun hk22 h1 => nx 2 rfl (eX (r20, i14 + 1) h1 (gE rfl rfl))
  exact nx 2 rfl (eXi _ (oi h1).symm (gE rfl rfl))
 refine nx 4 rfl (oLl (f := eTExpr) rfl rfl ?_)
 refine nx 2 rfl (fD [16, 17] h2 rfl (fun c15 h2 => ?_) fun c15 h2 => ?_)
 ·exact nx 4 rfl (eX _ (oi h2).symm (gE rfl rfl))
 exact nx 4 rfl (eX _ (oi h2).symm (gE rfl rfl))
def ref14_Small (n : Nat) (e_0 : TExpr) (nodes_1 : Int) : Option Bool :=
 (ref14_left n e_0 nodes_1 40).bind fun r1 =>
 some (decide (0 ≤ r1))
set_option maxHeartbeats 4000000 in
theorem ref14_Small_ok (n : Nat) (e_0 : TExpr) (nodes_1 : Int) (r : Bool) (h0 : ref14_Small n e_0 nodes_1 = some r) : PCalls Tryz.prog 25 [.agg (TExpr.cs e_0), eI nodes_1] (· = .p (eB r)) := by
 unfold ref14_Small at h0
 refine pbodyA good Tryz.func25 rfl rfl rfl fun w0 => mP (fun v : Bool => .p (eB v)) ?_
 refine nx 9 rfl (bd h0 fun r1 e2 h0 => ?_)
 refine oK (ref14_left_ok _ e_0 nodes_1 40 _ e2) rfl ⟨sr, sr, sr, trivial⟩ Tryz.call71 rfl (nx 4 rfl ?_)
 exact mQ (oi h0) rfl (sr)
def ref06_letter (c_0 : Int) : Option Bool :=
 (
   if 97 ≤ c_0 then
    if c_0 ≤ 122 then
     some true
    else
     if 65 ≤ c_0 then
      if c_0 ≤ 90 then
       some true
      else
       some (decide (c_0 = 95))
     else
      some (decide (c_0 = 95))
   else
    if 65 ≤ c_0 then
     if c_0 ≤ 90 then
      some true
     else
      some (decide (c_0 = 95))
    else
     some (decide (c_0 = 95))
  : Option Bool).bind fun t7 =>
 some t7
set_option maxHeartbeats 4000000 in
theorem ref06_letter_ok (c_0 : Int) (r : Bool) (h0 : ref06_letter c_0 = some r) : PCalls Tryz.prog 154 [eK .u8 c_0] (· = .p (eB r)) := by
 unfold ref06_letter at h0
 refine pbodyA good Tryz.func154 rfl rfl rfl fun w0 => mP (fun v : Bool => .p (eB v)) ?_
 refine nx 5 rfl (bd h0 fun o9 h1 h0 => ?_)
 refine kN o9 (fun v10 => ⟨[(2, .p (eB v10))], []⟩) ?_ ?_
 ·exact nx 2 rfl (mQ (oi h0) rfl (sr))
 refine nx 4 rfl (fD [4, 5] h1 rfl (fun c1 h1 => ?_) fun c1 h1 => ?_)
 ·refine nx 4 rfl (fD [7, 8, 9] h1 rfl (fun c2 h1 => ?_) fun c2 h1 => ?_)
  ·exact nx 13 rfl (eX _ (oi h1).symm (gE rfl rfl))
  refine nx 3 rfl (fD [11, 12] h1 rfl (fun c3 h1 => ?_) fun c3 h1 => ?_)
  ·refine nx 5 rfl (fD [14, 15, 16, 17] h1 rfl (fun c4 h1 => ?_) fun c4 h1 => ?_)
   ·exact nx 5 rfl (eX _ (oi h1).symm (gE rfl rfl))
   exact nx 5 rfl (eX _ (oi h1).symm (gE rfl rfl))
  exact nx 10 rfl (eX _ (oi h1).symm (gE rfl rfl))
 refine nx 7 rfl (fD [11, 12] h1 rfl (fun c5 h1 => ?_) fun c5 h1 => ?_)
 ·refine nx 5 rfl (fD [14, 15, 16, 17] h1 rfl (fun c6 h1 => ?_) fun c6 h1 => ?_)
  ·exact nx 5 rfl (eX _ (oi h1).symm (gE rfl rfl))
  exact nx 5 rfl (eX _ (oi h1).symm (gE rfl rfl))
 exact nx 10 rfl (eX _ (oi h1).symm (gE rfl rfl))
def ref06_Identifier_l1 (s_0 : Bytes) : Nat → Int → Option (Unit ⊕ Bool)
 | 0, _ => none
 | m + 1, i20 =>
 if i20 < (s_0.length : Int) then
  (
    ck ((0 : Int) ≤ i20 ∧ i20 < (s_0.length : Int)) <|
    (ref06_letter (byt s_0 i20)).bind fun r23 =>
    if (!r23) = true then
     ck ((0 : Int) ≤ i20 ∧ i20 < (s_0.length : Int)) <|
     if byt s_0 i20 < 48 then
      some true
     else
      ck ((0 : Int) ≤ i20 ∧ i20 < (s_0.length : Int)) <|
      some (decide (57 < byt s_0 i20))
    else
     some false
   : Option Bool).bind fun t29 =>
  if t29 = true then
   some (.inr false)
  else
   ck (inR (i20 + 1)) <|
   ref06_Identifier_l1 s_0 m (i20 + 1)
 else
  some (.inl ())
def ref06_Identifier (n : Nat) (s_0 : Bytes) : Option Bool :=
 (
   if s_0 = ([] : Bytes) then
    some true
   else
    if 64 < (s_0.length : Int) then
     some true
    else
     ck ((0 : Int) ≤ 0 ∧ 0 < (s_0.length : Int)) <|
     (ref06_letter (byt s_0 0)).bind fun r4 =>
     some (!r4)
  : Option Bool).bind fun t6 =>
 if t6 = true then
  some false
 else
  jn (ref06_Identifier_l1 s_0 n 0) fun q34 =>
  some true
set_option maxHeartbeats 4000000 in
theorem ref06_Identifier_ok (n : Nat) (s_0 : Bytes) (r : Bool) (h0 : ref06_Identifier n s_0 = some r) : PCalls Tryz.prog 114 [eS s_0] (· = .p (eB r)) := by
 unfold ref06_Identifier at h0
 refine pbodyA good Tryz.func114 rfl rfl rfl fun w0 => mP (fun v : Bool => .p (eB v)) ?_
 refine nx 6 rfl (bd h0 fun o36 h1 h0 => ?_)
 refine kN o36 (fun v37 => ⟨[(0, .p (eS s_0)), (16, .p (eB v37))], []⟩) ?_ ?_
 ·refine nx 1 rfl (fB [16] h0 rfl (fun c7 h0 => ?_) fun c7 h0 => ?_)
  ·exact nx 6 rfl (mQ (oi h0) rfl (sr))
  refine nx 8 rfl ?_
  obtain ⟨o38, h1, hL0, hR0⟩ := jn_cut h0
  refine kEx 0 (fun v39 : Unit => o38 = .inl v39) (fun v39 => ⟨[], []⟩) (fun v39 hv => ?_) ?_
  ·have h0 := hL0 _ hv
   exact nx 6 rfl (mQ (oi h0) rfl (sr))
  refine lG (fun (q40 : Int) => ⟨[(0, .p (eS s_0)), (3, .p (eI q40))], []⟩) (fun m (q40 : Int) => ref06_Identifier_l1 s_0 m q40) (fun _ => rfl) 0 h1 (gE rfl rfl) ?_
  rintro m i20 h1
  replace h1 : ref06_Identifier_l1 s_0 (m + 1) i20 = some o38 := h1
  rw [ref06_Identifier_l1] at h1
  refine nx 5 rfl (oLs rfl ?_)
  refine nx 2 rfl (fD [20] h1 rfl (fun c21 h1 => ?_) fun c21 h1 => ?_)
  ·refine nx 5 rfl (bd h1 fun o41 h2 h1 => ?_)
   refine kN o41 (fun v42 => ⟨[(0, .p (eS s_0)), (3, .p (eI i20)), (39, .p (eB v42))], []⟩) ?_ ?_
   ·refine nx 1 rfl (fB [39] h1 rfl (fun c30 h1 => ?_) fun c30 h1 => ?_)
    ·exact nx 6 rfl (mQ (hR0 _ (oi h1).symm) rfl (sr))
    refine nx 4 rfl (oA h1 rfl rfl fun hk31 h1 => ?_)
    exact nx 2 rfl (eX (i20 + 1) h1 (gE rfl rfl))
   refine nx 3 rfl (oI h2 rfl fun hk22 h2 => ?_)
   refine bd h2 fun r23 e24 h2 => oK (ref06_letter_ok (byt s_0 i20) _ e24) rfl ⟨sr, trivial⟩ Tryz.call154 rfl (nx 2 rfl ?_)
   refine fB [27, 28] h2 rfl (fun c25 h2 => ?_) fun c25 h2 => ?_
   ·refine nx 2 rfl (oI h2 rfl fun hk26 h2 => ?_)
    refine nx 2 rfl (fD [32, 33] h2 rfl (fun c27 h2 => ?_) fun c27 h2 => ?_)
    ·exact nx 7 rfl (eX _ (oi h2).symm (gE rfl rfl))
    refine nx 2 rfl (oI h2 rfl fun hk28 h2 => ?_)
    exact nx 4 rfl (eX _ (oi h2).symm (gE rfl rfl))
   exact nx 12 rfl (eX _ (oi h2).symm (gE rfl rfl))
  exact nx 2 rfl (eXi _ (oi h1).symm (gE rfl rfl))
 refine nx 2 rfl (oS rfl rfl ?_)
 refine nx 1 rfl (fD [5, 6] h1 rfl (fun c1 h1 => ?_) fun c1 h1 => ?_)
 ·exact nx 11 rfl (eX _ (oi h1).symm (gE rfl rfl))
 refine nx 1 rfl (oLs rfl ?_)
 refine nx 3 rfl (fD [9, 10, 11] h1 rfl (fun c2 h1 => ?_) fun c2 h1 => ?_)
 ·exact nx 6 rfl (eX _ (oi h1).symm (gE rfl rfl))
 refine nx 1 rfl (oI h1 rfl fun hk3 h1 => ?_)
 refine bd h1 fun r4 e5 h1 => oK (ref06_letter_ok (byt s_0 0) _ e5) rfl ⟨sr, trivial⟩ Tryz.call154 rfl (nx 3 rfl ?_)
 exact eX _ (oi h1).symm (gE rfl rfl)
def ref14_Reserved (s_0 : Bytes) : Option Bool :=
 (
   if s_0 = ([110, 117, 108, 108] : Bytes) then
    some true
   else
    if s_0 = ([116, 114, 117, 101] : Bytes) then
     some true
    else
     if s_0 = ([102, 97, 108, 115, 101] : Bytes) then
      some true
     else
      if s_0 = ([102, 111, 114] : Bytes) then
       some true
      else
       if s_0 = ([105, 110] : Bytes) then
        some true
       else
        some (decide (s_0 = ([105, 102] : Bytes)))
  : Option Bool).bind fun t6 =>
 some t6
set_option maxHeartbeats 4000000 in
theorem ref14_Reserved_ok (s_0 : Bytes) (r : Bool) (h0 : ref14_Reserved s_0 = some r) : PCalls Tryz.prog 153 [eS s_0] (· = .p (eB r)) := by
 unfold ref14_Reserved at h0
 refine pbodyA good Tryz.func153 rfl rfl rfl fun w0 => mP (fun v : Bool => .p (eB v)) ?_
 refine nx 5 rfl (bd h0 fun o8 h1 h0 => ?_)
 refine kN o8 (fun v9 => ⟨[(2, .p (eB v9))], []⟩) ?_ ?_
 ·exact nx 2 rfl (mQ (oi h0) rfl (sr))
 refine nx 2 rfl (oS rfl rfl ?_)
 refine nx 1 rfl (fD [4, 5] h1 rfl (fun c1 h1 => ?_) fun c1 h1 => ?_)
 ·exact nx 21 rfl (eX _ (oi h1).symm (gE rfl rfl))
 refine nx 1 rfl (oS rfl rfl ?_)
 refine nx 2 rfl (fD [7, 8, 9] h1 rfl (fun c2 h1 => ?_) fun c2 h1 => ?_)
 ·exact nx 17 rfl (eX _ (oi h1).symm (gE rfl rfl))
 refine nx 1 rfl (oS rfl rfl ?_)
 refine nx 2 rfl (fD [11, 12, 13] h1 rfl (fun c3 h1 => ?_) fun c3 h1 => ?_)
 ·exact nx 13 rfl (eX _ (oi h1).symm (gE rfl rfl))
 refine nx 1 rfl (oS rfl rfl ?_)
 refine nx 2 rfl (fD [15, 16, 17] h1 rfl (fun c4 h1 => ?_) fun c4 h1 => ?_)
 ·exact nx 9 rfl (eX _ (oi h1).symm (gE rfl rfl))
 refine nx 1 rfl (oS rfl rfl ?_)
 refine nx 2 rfl (fD [19, 20, 21] h1 rfl (fun c5 h1 => ?_) fun c5 h1 => ?_)
 ·exact nx 5 rfl (eX _ (oi h1).symm (gE rfl rfl))
 refine nx 1 rfl (oS rfl rfl ?_)
 exact nx 3 rfl (eX _ (oi h1).symm (gE rfl rfl))
def ref14_Name (n : Nat) (s_0 : Bytes) : Option Bool :=
 (
   (ref06_Identifier n s_0).bind fun r1 =>
   if r1 = true then
    (ref14_Reserved s_0).bind fun r4 =>
    some (!r4)
   else
    some false
  : Option Bool).bind fun t6 =>
 some t6
set_option maxHeartbeats 4000000 in
theorem ref14_Name_ok (n : Nat) (s_0 : Bytes) (r : Bool) (h0 : ref14_Name n s_0 = some r) : PCalls Tryz.prog 123 [eS s_0] (· = .p (eB r)) := by
 unfold ref14_Name at h0
 refine pbodyA good Tryz.func123 rfl rfl rfl fun w0 => mP (fun v : Bool => .p (eB v)) ?_
 refine nx 5 rfl (bd h0 fun o8 h1 h0 => ?_)
 refine kN o8 (fun v9 => ⟨[(2, .p (eB v9))], []⟩) ?_ ?_
 ·exact nx 2 rfl (mQ (oi h0) rfl (sr))
 refine nx 2 rfl (bd h1 fun r1 e2 h1 => ?_)
 refine oK (ref06_Identifier_ok _ s_0 _ e2) rfl ⟨sr, trivial⟩ Tryz.call114 rfl (nx 1 rfl ?_)
 refine fB [4, 5] h1 rfl (fun c3 h1 => ?_) fun c3 h1 => ?_
 ·refine nx 1 rfl (bd h1 fun r4 e5 h1 => ?_)
  refine oK (ref14_Reserved_ok s_0 _ e5) rfl ⟨sr, trivial⟩ Tryz.call153 rfl (nx 4 rfl ?_)
  exact eX _ (oi h1).symm (gE rfl rfl)
 exact nx 6 rfl (eX _ (oi h1).symm (gE rfl rfl))
def ref14_loop (k_0 : Int) : Option Bool :=
 (
   if k_0 = 12 then
    some true
   else
    some (decide (k_0 = 13))
  : Option Bool).bind fun t2 =>
 some t2
set_option maxHeartbeats 4000000 in
theorem ref14_loop_ok (k_0 : Int) (r : Bool) (h0 : ref14_loop k_0 = some r) : PCalls Tryz.prog 180 [eI k_0] (· = .p (eB r)) := by
 unfold ref14_loop at h0
 refine pbodyA good Tryz.func180 rfl rfl rfl fun w0 => mP (fun v : Bool => .p (eB v)) ?_
 refine nx 5 rfl (bd h0 fun o4 h1 h0 => ?_)
 refine kN o4 (fun v5 => ⟨[(2, .p (eB v5))], []⟩) ?_ ?_
 ·exact nx 2 rfl (mQ (oi h0) rfl (sr))
 refine nx 4 rfl (fD [4, 5] h1 rfl (fun c1 h1 => ?_) fun c1 h1 => ?_)
 ·exact nx 5 rfl (eX _ (oi h1).symm (gE rfl rfl))
 exact nx 5 rfl (eX _ (oi h1).symm (gE rfl rfl))
def ref14_named (k_0 : Int) : Option Bool :=
 (
   if k_0 = 3 then
    some true
   else
    if k_0 = 4 then
     some true
    else
     if k_0 = 9 then
      some true
     else
      (ref14_loop k_0).bind fun r4 =>
      some r4
  : Option Bool).bind fun t6 =>
 some t6
set_option maxHeartbeats 4000000 in
theorem ref14_named_ok (k_0 : Int) (r : Bool) (h0 : ref14_named k_0 = some r) : PCalls Tryz.prog 152 [eI k_0] (· = .p (eB r)) := by
 unfold ref14_named at h0
 refine pbodyA good Tryz.func152 rfl rfl rfl fun w0 => mP (fun v : Bool => .p (eB v)) ?_
 refine nx 5 rfl (bd h0 fun o8 h1 h0 => ?_)
 refine kN o8 (fun v9 => ⟨[(2, .p (eB v9))], []⟩) ?_ ?_
 ·exact nx 2 rfl (mQ (oi h0) rfl (sr))
 refine nx 4 rfl (fD [4, 5] h1 rfl (fun c1 h1 => ?_) fun c1 h1 => ?_)
 ·exact nx 13 rfl (eX _ (oi h1).symm (gE rfl rfl))
 refine nx 4 rfl (fD [7, 8, 9] h1 rfl (fun c2 h1 => ?_) fun c2 h1 => ?_)
 ·exact nx 9 rfl (eX _ (oi h1).symm (gE rfl rfl))
 refine nx 4 rfl (fD [11, 12, 13] h1 rfl (fun c3 h1 => ?_) fun c3 h1 => ?_)
 ·exact nx 5 rfl (eX _ (oi h1).symm (gE rfl rfl))
 refine nx 1 rfl (bd h1 fun r4 e5 h1 => ?_)
 refine oK (ref14_loop_ok k_0 _ e5) rfl ⟨sr, trivial⟩ Tryz.call180 rfl (nx 3 rfl ?_)
 exact eX _ (oi h1).symm (gE rfl rfl)
def ref14_kids (k_0 : Int) (n_1 : Int) : Option Bool :=
 (
   if k_0 = 1 then
    some true
   else
    some (decide (k_0 = 3))
  : Option Bool).bind fun t2 =>
 if t2 = true then
  some (decide (n_1 = 0))
 else
  if k_0 = 2 then
   some (decide (1 ≤ n_1))
  else
   (
     if k_0 = 4 then
      some true
     else
      some (decide (k_0 = 6))
    : Option Bool).bind fun t6 =>
   if t6 = true then
    some (decide (n_1 = 1))
   else
    (
      if k_0 = 5 then
       some true
      else
       some (decide (k_0 = 7))
     : Option Bool).bind fun t9 =>
    if t9 = true then
     some (decide (n_1 = 2))
    else
     if k_0 = 8 then
      some (decide (n_1 = 3))
     else
      (
        if k_0 = 9 then
         some true
        else
         some (decide (k_0 = 10))
       : Option Bool).bind fun t13 =>
      if t13 = true then
       some true
      else
       if k_0 = 11 then
        ck ((2 : Int) ≠ 0) <|
        some (decide (n_1.tmod 2 = 0))
       else
        if k_0 = 12 then
         (
           if n_1 = 2 then
            some true
           else
            some (decide (n_1 = 3))
          : Option Bool).bind fun t19 =>
         some t19
        else
         if k_0 = 13 then
          (
            if n_1 = 3 then
             some true
            else
             some (decide (n_1 = 4))
           : Option Bool).bind fun t22 =>
          some t22
         else
          some false
set_option maxHeartbeats 4000000 in
theorem ref14_kids_ok (k_0 : Int) (n_1 : Int) (r : Bool) (h0 : ref14_kids k_0 n_1 = some r) : PCalls Tryz.prog 179 [eI k_0, eI n_1] (· = .p (eB r)) := by
 unfold ref14_kids at h0
 refine pbodyA good Tryz.func179 rfl rfl rfl fun w0 => mP (fun v : Bool => .p (eB v)) ?_
 refine nx 11 rfl (bd h0 fun o29 h1 h0 => ?_)
 refine kN o29 (fun v30 => ⟨[(1, .p (eI n_1)), (5, .p (eI k_0)), (6, .p (eB v30))], []⟩) ?_ ?_
 ·refine nx 1 rfl (fB [6] h0 rfl (fun c3 h0 => ?_) fun c3 h0 => ?_)
  ·exact nx 8 rfl (mQ (oi h0) rfl (sr))
  refine nx 6 rfl (fD [11, 12] h0 rfl (fun c4 h0 => ?_) fun c4 h0 => ?_)
  ·exact nx 8 rfl (mQ (oi h0) rfl (sr))
  refine nx 2 rfl (bd h0 fun o31 h1 h0 => ?_)
  refine kN o31 (fun v32 => ⟨[(1, .p (eI n_1)), (5, .p (eI k_0)), (15, .p (eB v32))], []⟩) ?_ ?_
  ·refine nx 1 rfl (fB [15] h0 rfl (fun c7 h0 => ?_) fun c7 h0 => ?_)
   ·exact nx 8 rfl (mQ (oi h0) rfl (sr))
   refine nx 2 rfl (bd h0 fun o33 h1 h0 => ?_)
   refine kN o33 (fun v34 => ⟨[(1, .p (eI n_1)), (5, .p (eI k_0)), (20, .p (eB v34))], []⟩) ?_ ?_
   ·refine nx 1 rfl (fB [20] h0 rfl (fun c10 h0 => ?_) fun c10 h0 => ?_)
    ·exact nx 8 rfl (mQ (oi h0) rfl (sr))
    refine nx 6 rfl (fD [25, 26] h0 rfl (fun c11 h0 => ?_) fun c11 h0 => ?_)
    ·exact nx 8 rfl (mQ (oi h0) rfl (sr))
    refine nx 2 rfl (bd h0 fun o35 h1 h0 => ?_)
    refine kN o35 (fun v36 => ⟨[(1, .p (eI n_1)), (5, .p (eI k_0)), (29, .p (eB v36))], []⟩) ?_ ?_
    ·refine nx 1 rfl (fB [29] h0 rfl (fun c14 h0 => ?_) fun c14 h0 => ?_)
     ·exact nx 6 rfl (mQ (oi h0) rfl (sr))
     refine nx 6 rfl (fD [32, 33] h0 rfl (fun c15 h0 => ?_) fun c15 h0 => ?_)
     ·refine nx 4 rfl (cc' h0 fun hk16 h0 => ?_)
      refine mO rfl (ok_dv rfl rfl rfl rfl rfl rfl hk16 ?_)
      exact nx 4 rfl (mQ (oi h0) rfl (sr))
     refine nx 6 rfl (fD [37, 38] h0 rfl (fun c17 h0 => ?_) fun c17 h0 => ?_)
     ·refine nx 2 rfl (bd h0 fun o37 h1 h0 => ?_)
      refine kN o37 (fun v38 => ⟨[(4, .p (eB v38))], []⟩) ?_ ?_
      ·exact nx 2 rfl (mQ (oi h0) rfl (sr))
      refine nx 4 rfl (fD [40, 41] h1 rfl (fun c18 h1 => ?_) fun c18 h1 => ?_)
      ·exact nx 5 rfl (eX _ (oi h1).symm (gE rfl rfl))
      exact nx 5 rfl (eX _ (oi h1).symm (gE rfl rfl))
     refine nx 6 rfl (fD [45, 46] h0 rfl (fun c20 h0 => ?_) fun c20 h0 => ?_)
     ·refine nx 2 rfl (bd h0 fun o39 h1 h0 => ?_)
      refine kN o39 (fun v40 => ⟨[(4, .p (eB v40))], []⟩) ?_ ?_
      ·exact nx 2 rfl (mQ (oi h0) rfl (sr))
      refine nx 4 rfl (fD [48, 49] h1 rfl (fun c21 h1 => ?_) fun c21 h1 => ?_)
      ·exact nx 5 rfl (eX _ (oi h1).symm (gE rfl rfl))
      exact nx 5 rfl (eX _ (oi h1).symm (gE rfl rfl))
     exact nx 7 rfl (mQ (oi h0) rfl (sr))
    refine nx 5 rfl (fD [29, 30] h1 rfl (fun c12 h1 => ?_) fun c12 h1 => ?_)
    ·exact nx 2 rfl (eX _ (oi h1).symm (gE rfl rfl))
    exact nx 5 rfl (eX _ (oi h1).symm (gE rfl rfl))
   refine nx 5 rfl (fD [20, 21] h1 rfl (fun c8 h1 => ?_) fun c8 h1 => ?_)
   ·exact nx 2 rfl (eX _ (oi h1).symm (gE rfl rfl))
   exact nx 5 rfl (eX _ (oi h1).symm (gE rfl rfl))
  refine nx 5 rfl (fD [15, 16] h1 rfl (fun c5 h1 => ?_) fun c5 h1 => ?_)
  ·exact nx 2 rfl (eX _ (oi h1).symm (gE rfl rfl))
  exact nx 5 rfl (eX _ (oi h1).symm (gE rfl rfl))
 refine nx 5 rfl (fD [6, 7] h1 rfl (fun c1 h1 => ?_) fun c1 h1 => ?_)
 ·exact nx 2 rfl (eX _ (oi h1).symm (gE rfl rfl))
 exact nx 5 rfl (eX _ (oi h1).symm (gE rfl rfl))
def ref14_zero (v_0 : TValue) : Option Bool :=
 (
   if v_0.fKind = 0 then
    if v_0.fNum = 0 then
     if v_0.fStr = ([] : Bytes) then
      if (v_0.fItems.length : Int) = 0 then
       some (decide ((v_0.fKeys.length : Int) = 0))
      else
       some false
     else
      some false
    else
     some false
   else
    some false
  : Option Bool).bind fun t5 =>
 some t5
set_option maxHeartbeats 4000000 in
theorem ref14_zero_ok (v_0 : TValue) (r : Bool) (h0 : ref14_zero v_0 = some r) : PCalls Tryz.prog 181 [.agg (TValue.cs v_0)] (· = .p (eB r)) := by
 unfold ref14_zero at h0
 refine pbodyA good Tryz.func181 rfl rfl rfl fun w0 => mP (fun v : Bool => .p (eB v)) ?_
 refine nx 6 rfl (bd h0 fun o7 h1 h0 => ?_)
 refine kN o7 (fun v8 => ⟨[(2, .p (eB v8))], []⟩) ?_ ?_
 ·exact nx 2 rfl (mQ (oi h0) rfl (sr))
 refine nx 5 rfl (fD [5, 6] h1 rfl (fun c1 h1 => ?_) fun c1 h1 => ?_)
 ·refine nx 5 rfl (fD [9, 10, 11] h1 rfl (fun c2 h1 => ?_) fun c2 h1 => ?_)
  ·refine nx 2 rfl (oS rfl rfl ?_)
   refine nx 2 rfl (fD [14, 15, 16] h1 rfl (fun c3 h1 => ?_) fun c3 h1 => ?_)
   ·refine nx 2 rfl (oLl (f := eTValue) rfl rfl ?_)
    refine nx 3 rfl (fD [20, 21, 22] h1 rfl (fun c4 h1 => ?_) fun c4 h1 => ?_)
    ·refine nx 2 rfl (oLl (f := eS) rfl rfl ?_)
     exact nx 4 rfl (eX _ (oi h1).symm (gE rfl rfl))
    exact nx 7 rfl (eX _ (oi h1).symm (gE rfl rfl))
   exact nx 13 rfl (eX _ (oi h1).symm (gE rfl rfl))
  exact nx 18 rfl (eX _ (oi h1).symm (gE rfl rfl))
 exact nx 23 rfl (eX _ (oi h1).symm (gE rfl rfl))
def ref14_shaped (e_0 : TExpr) : Option Bool :=
 (
   (ref14_kids e_0.fKind (e_0.fKids.length : Int)).bind fun r1 =>
   if (!r1) = true then
    some true
   else
    (ref14_loop e_0.fKind).bind fun r4 =>
    if (!r4) = true then
     if e_0.fKey = ([] : Bytes) then
      (ref14_named e_0.fKind).bind fun r8 =>
      if (!r8) = true then
       some (!decide (e_0.fName = ([] : Bytes)))
      else
       some false
     else
      some true
    else
     (ref14_named e_0.fKind).bind fun r11 =>
     if (!r11) = true then
      some (!decide (e_0.fName = ([] : Bytes)))
     else
      some false
  : Option Bool).bind fun t14 =>
 if t14 = true then
  some false
 else
  if e_0.fKind = 1 then
   (
     if e_0.fOp = 0 then
      if e_0.fValue.fKind = 0 then
       some true
      else
       if e_0.fValue.fKind = 1 then
        some true
       else
        if e_0.fValue.fKind = 3 then
         some true
        else
         if e_0.fValue.fKind = 2 then
          some (decide (0 ≤ e_0.fValue.fNum))
         else
          some false
     else
      some false
    : Option Bool).bind fun t22 =>
   some t22
  else
   (ref14_zero e_0.fValue).bind fun r23 =>
   if (!r23) = true then
    some false
   else
    if e_0.fKind = 6 then
     (
       if e_0.fOp = 1 then
        some true
       else
        some (decide (e_0.fOp = 2))
      : Option Bool).bind fun t28 =>
     some t28
    else
     if e_0.fKind = 7 then
      (
        if 3 ≤ e_0.fOp then
         some (decide (e_0.fOp ≤ 15))
        else
         some false
       : Option Bool).bind fun t31 =>
      some t31
     else
      some (decide (e_0.fOp = 0))
set_option maxHeartbeats 4000000 in
theorem ref14_shaped_ok (e_0 : TExpr) (r : Bool) (h0 : ref14_shaped e_0 = some r) : PCalls Tryz.prog 150 [.agg (TExpr.cs e_0)] (· = .p (eB r)) := by
 unfold ref14_shaped at h0
 refine pbodyA good Tryz.func150 rfl rfl rfl fun w0 => mP (fun v : Bool => .p (eB v)) ?_
 refine nx 7 rfl (bd h0 fun o36 h1 h0 => ?_)
 refine kN o36 (fun v37 => ⟨[(1, .ptr 1 0), (32, .p (eB v37))], [(1, (TExpr.cs e_0).map .p)]⟩) ?_ ?_
 ·refine nx 1 rfl (fB [32] h0 rfl (fun c15 h0 => ?_) fun c15 h0 => ?_)
  ·exact nx 6 rfl (mQ (oi h0) rfl (sr))
  refine nx 9 rfl (fD [35] h0 rfl (fun c16 h0 => ?_) fun c16 h0 => ?_)
  ·refine nx 9 rfl (bd h0 fun o38 h1 h0 => ?_)
   refine kN o38 (fun v39 => ⟨[(2, .p (eB v39))], []⟩) ?_ ?_
   ·exact nx 2 rfl (mQ (oi h0) rfl (sr))
   refine nx 5 rfl (fD [41, 42] h1 rfl (fun c17 h1 => ?_) fun c17 h1 => ?_)
   ·refine nx 3 rfl (fD [44, 45] h1 rfl (fun c18 h1 => ?_) fun c18 h1 => ?_)
    ·exact nx 20 rfl (eX _ (oi h1).symm (gE rfl rfl))
    refine nx 4 rfl (fD [47, 48, 49] h1 rfl (fun c19 h1 => ?_) fun c19 h1 => ?_)
    ·exact nx 16 rfl (eX _ (oi h1).symm (gE rfl rfl))
    refine nx 4 rfl (fD [51, 52, 53] h1 rfl (fun c20 h1 => ?_) fun c20 h1 => ?_)
    ·exact nx 12 rfl (eX _ (oi h1).symm (gE rfl rfl))
    refine nx 3 rfl (fD [55, 56] h1 rfl (fun c21 h1 => ?_) fun c21 h1 => ?_)
    ·exact nx 9 rfl (eX _ (oi h1).symm (gE rfl rfl))
    exact nx 9 rfl (eX _ (oi h1).symm (gE rfl rfl))
   exact nx 23 rfl (eX _ (oi h1).symm (gE rfl rfl))
  refine nx 7 rfl (bd h0 fun r23 e24 h0 => ?_)
  refine oK (ref14_zero_ok e_0.fValue _ e24) rfl ⟨sr, trivial⟩ Tryz.call181 rfl (nx 2 rfl ?_)
  refine fB [67] h0 rfl (fun c25 h0 => ?_) fun c25 h0 => ?_
  ·exact nx 6 rfl (mQ (oi h0) rfl (sr))
  refine nx 14 rfl (fD [70, 71] h0 rfl (fun c26 h0 => ?_) fun c26 h0 => ?_)
  ·refine nx 2 rfl (bd h0 fun o40 h1 h0 => ?_)
   refine kN o40 (fun v41 => ⟨[(2, .p (eB v41))], []⟩) ?_ ?_
   ·exact nx 2 rfl (mQ (oi h0) rfl (sr))
   refine nx 5 rfl (fD [74, 75] h1 rfl (fun c27 h1 => ?_) fun c27 h1 => ?_)
   ·exact nx 6 rfl (eX _ (oi h1).symm (gE rfl rfl))
   exact nx 6 rfl (eX _ (oi h1).symm (gE rfl rfl))
  refine nx 6 rfl (fD [80, 81] h0 rfl (fun c29 h0 => ?_) fun c29 h0 => ?_)
  ·refine nx 2 rfl (bd h0 fun o42 h1 h0 => ?_)
   refine kN o42 (fun v43 => ⟨[(2, .p (eB v43))], []⟩) ?_ ?_
   ·exact nx 2 rfl (mQ (oi h0) rfl (sr))
   refine nx 5 rfl (fD [84, 85] h1 rfl (fun c30 h1 => ?_) fun c30 h1 => ?_)
   ·exact nx 6 rfl (eX _ (oi h1).symm (gE rfl rfl))
   exact nx 6 rfl (eX _ (oi h1).symm (gE rfl rfl))
  exact nx 10 rfl (mQ (oi h0) rfl (sr))
 refine nx 5 rfl (oLl (f := eTExpr) rfl rfl ?_)
 refine bd h1 fun r1 e2 h1 => oK (ref14_kids_ok e_0.fKind (e_0.fKids.length : Int) _ e2) rfl ⟨sr, sr, trivial⟩ Tryz.call179 rfl (nx 2 rfl ?_)
 refine fB [10, 11] h1 rfl (fun c3 h1 => ?_) fun c3 h1 => ?_
 ·exact nx 22 rfl (eX _ (oi h1).symm (gE rfl rfl))
 refine nx 2 rfl (bd h1 fun r4 e5 h1 => ?_)
 refine oK (ref14_loop_ok e_0.fKind _ e5) rfl ⟨sr, trivial⟩ Tryz.call180 rfl (nx 2 rfl ?_)
 refine fB [15, 16] h1 rfl (fun c6 h1 => ?_) fun c6 h1 => ?_
 ·refine nx 2 rfl (oS rfl rfl ?_)
  refine nx 3 rfl (fN [19, 20, 21, 22] h1 rfl (fun c7 h1 => ?_) fun c7 h1 => ?_)
  ·refine nx 2 rfl (bd h1 fun r8 e9 h1 => ?_)
   refine oK (ref14_named_ok e_0.fKind _ e9) rfl ⟨sr, trivial⟩ Tryz.call152 rfl (nx 2 rfl ?_)
   refine fB [26, 27] h1 rfl (fun c10 h1 => ?_) fun c10 h1 => ?_
   ·refine nx 2 rfl (oS rfl rfl ?_)
    exact nx 3 rfl (eX _ (oi h1).symm (gE rfl rfl))
   exact nx 6 rfl (eX _ (oi h1).symm (gE rfl rfl))
  exact nx 11 rfl (eX _ (oi h1).symm (gE rfl rfl))
 refine nx 8 rfl (bd h1 fun r11 e12 h1 => ?_)
 refine oK (ref14_named_ok e_0.fKind _ e12) rfl ⟨sr, trivial⟩ Tryz.call152 rfl (nx 2 rfl ?_)
 refine fB [26, 27] h1 rfl (fun c13 h1 => ?_) fun c13 h1 => ?_
 ·refine nx 2 rfl (oS rfl rfl ?_)
  exact nx 3 rfl (eX _ (oi h1).symm (gE rfl rfl))
 exact nx 6 rfl (eX _ (oi h1).symm (gE rfl rfl))
def ref07_shaped (v_0 : TValue) : Option Bool :=
 (
   if v_0.fKind = 2 then
    some true
   else
    if v_0.fKind = 1 then
     if v_0.fNum = 0 then
      some true
     else
      if v_0.fNum = 1 then
       some true
      else
       some (decide (v_0.fNum = 0))
    else
     some (decide (v_0.fNum = 0))
  : Option Bool).bind fun num5 =>
 (
   if v_0.fKind = 3 then
    some true
   else
    some (decide (v_0.fStr = ([] : Bytes)))
  : Option Bool).bind fun str7 =>
 (
   if v_0.fKind = 4 then
    some true
   else
    if v_0.fKind = 5 then
     some true
    else
     some (decide ((v_0.fItems.length : Int) = 0))
  : Option Bool).bind fun items10 =>
 (
   if v_0.fKind = 5 then
    if (v_0.fKeys.length : Int) = (v_0.fItems.length : Int) then
     some true
    else
     some false
   else
    some (decide ((v_0.fKeys.length : Int) = 0))
  : Option Bool).bind fun keys13 =>
 (
   if 0 ≤ v_0.fKind then
    if v_0.fKind ≤ 6 then
     if num5 = true then
      if str7 = true then
       if items10 = true then
        some keys13
       else
        some false
      else
       some false
     else
      some false
    else
     some false
   else
    some false
  : Option Bool).bind fun t19 =>
 some t19
set_option maxHeartbeats 4000000 in
theorem ref07_shaped_ok (v_0 : TValue) (r : Bool) (h0 : ref07_shaped v_0 = some r) : PCalls Tryz.prog 220 [.agg (TValue.cs v_0)] (· = .p (eB r)) := by
 unfold ref07_shaped at h0
 refine pbodyA good Tryz.func220 rfl rfl rfl fun w0 => mP (fun v : Bool => .p (eB v)) ?_
 refine nx 6 rfl (bd h0 fun o25 h1 h0 => ?_)
 refine kN o25 (fun v26 => ⟨[(1, .ptr 1 0), (3, .p (eB v26))], [(1, (TValue.cs v_0).map .p)]⟩) ?_ ?_
 ·refine nx 2 rfl (bd h0 fun o27 h1 h0 => ?_)
  refine kN o27 (fun v28 => ⟨[(1, .ptr 1 0), (3, .p (eB o25)), (4, .p (eB v28))], [(1, (TValue.cs v_0).map .p)]⟩) ?_ ?_
  ·refine nx 2 rfl (bd h0 fun o29 h1 h0 => ?_)
   refine kN o29 (fun v30 => ⟨[(1, .ptr 1 0), (3, .p (eB o25)), (4, .p (eB o27)), (5, .p (eB v30))], [(1, (TValue.cs v_0).map .p)]⟩) ?_ ?_
   ·refine nx 2 rfl (bd h0 fun o31 h1 h0 => ?_)
    refine kN o31 (fun v32 => ⟨[(1, .ptr 1 0), (3, .p (eB o25)), (4, .p (eB o27)), (5, .p (eB o29)), (6, .p (eB v32))], [(1, (TValue.cs v_0).map .p)]⟩) ?_ ?_
    ·refine nx 2 rfl (bd h0 fun o33 h1 h0 => ?_)
     refine kN o33 (fun v34 => ⟨[(2, .p (eB v34))], []⟩) ?_ ?_
     ·exact nx 2 rfl (mQ (oi h0) rfl (sr))
     refine nx 5 rfl (fD [77, 78] h1 rfl (fun c14 h1 => ?_) fun c14 h1 => ?_)
     ·refine nx 5 rfl (fD [81, 82, 83] h1 rfl (fun c15 h1 => ?_) fun c15 h1 => ?_)
      ·refine nx 3 rfl (fB [3, 84, 85, 86] h1 rfl (fun c16 h1 => ?_) fun c16 h1 => ?_)
       ·refine nx 3 rfl (fB [4, 87, 88, 89] h1 rfl (fun c17 h1 => ?_) fun c17 h1 => ?_)
        ·refine nx 3 rfl (fB [5, 90, 91, 92] h1 rfl (fun c18 h1 => ?_) fun c18 h1 => ?_)
         ·exact nx 4 rfl (eX _ (oi h1).symm (gE rfl rfl))
         exact nx 4 rfl (eX _ (oi h1).symm (gE rfl rfl))
        exact nx 7 rfl (eX _ (oi h1).symm (gE rfl rfl))
       exact nx 10 rfl (eX _ (oi h1).symm (gE rfl rfl))
      exact nx 13 rfl (eX _ (oi h1).symm (gE rfl rfl))
     exact nx 18 rfl (eX _ (oi h1).symm (gE rfl rfl))
    refine nx 5 rfl (fD [54, 55] h1 rfl (fun c11 h1 => ?_) fun c11 h1 => ?_)
    ·refine nx 2 rfl (oLl (f := eS) rfl rfl ?_)
     refine nx 2 rfl (oLl (f := eTValue) rfl rfl ?_)
     refine nx 3 rfl (fD [62, 63, 64] h1 rfl (fun c12 h1 => ?_) fun c12 h1 => ?_)
     ·exact nx 12 rfl (eX _ (oi h1).symm (gE rfl rfl))
     refine nx 4 rfl (lT [68] (nd_false c11) rfl ?_)
     exact nx 8 rfl (eX _ (oi h1).symm (gE rfl rfl))
    refine nx 13 rfl (lT [68] (nd_true c11) rfl ?_)
    refine nx 2 rfl (oLl (f := eS) rfl rfl ?_)
    exact nx 5 rfl (eX _ (oi h1).symm (gE rfl rfl))
   refine nx 5 rfl (fD [40, 41] h1 rfl (fun c8 h1 => ?_) fun c8 h1 => ?_)
   ·exact nx 12 rfl (eX _ (oi h1).symm (gE rfl rfl))
   refine nx 5 rfl (fD [44, 45, 46] h1 rfl (fun c9 h1 => ?_) fun c9 h1 => ?_)
   ·exact nx 7 rfl (eX _ (oi h1).symm (gE rfl rfl))
   refine nx 2 rfl (oLl (f := eTValue) rfl rfl ?_)
   exact nx 4 rfl (eX _ (oi h1).symm (gE rfl rfl))
  refine nx 5 rfl (fD [32, 33] h1 rfl (fun c6 h1 => ?_) fun c6 h1 => ?_)
  ·exact nx 6 rfl (eX _ (oi h1).symm (gE rfl rfl))
  refine nx 2 rfl (oS rfl rfl ?_)
  exact nx 3 rfl (eX _ (oi h1).symm (gE rfl rfl))
 refine nx 5 rfl (fD [9, 10] h1 rfl (fun c1 h1 => ?_) fun c1 h1 => ?_)
 ·exact nx 21 rfl (eX _ (oi h1).symm (gE rfl rfl))
 refine nx 4 rfl (fD [13, 14] h1 rfl (fun c2 h1 => ?_) fun c2 h1 => ?_)
 ·refine nx 4 rfl (fD [17, 18] h1 rfl (fun c3 h1 => ?_) fun c3 h1 => ?_)
  ·exact nx 13 rfl (eX _ (oi h1).symm (gE rfl rfl))
  refine nx 7 rfl (fD [21, 22, 23, 24, 25] h1 rfl (fun c4 h1 => ?_) fun c4 h1 => ?_)
  ·exact nx 6 rfl (eX _ (oi h1).symm (gE rfl rfl))
  exact nx 6 rfl (eX _ (oi h1).symm (gE rfl rfl))
 exact nx 17 rfl (eX _ (oi h1).symm (gE rfl rfl))
def ref07_text (n : Nat) (s_0 : Bytes) : Option Int :=
 if 4096 < (s_0.length : Int) then
  some 3
 else
  (ref02_Valid n s_0).bind fun r2 =>
  if (!r2) = true then
   some 1
  else
   some 0
set_option maxHeartbeats 4000000 in
theorem ref07_text_ok (n : Nat) (s_0 : Bytes) (r : Int) (h0 : ref07_text n s_0 = some r) : PCalls Tryz.prog 222 [eS s_0] (· = .p (eI r)) := by
 unfold ref07_text at h0
 refine pbodyA good Tryz.func222 rfl rfl rfl fun w0 => mP (fun v : Int => .p (eI v)) ?_
 refine nx 8 rfl (oLs rfl ?_)
 refine nx 2 rfl (fD [5] h0 rfl (fun c1 h0 => ?_) fun c1 h0 => ?_)
 ·exact nx 6 rfl (mQ (oi h0) rfl (sr))
 refine nx 6 rfl (bd h0 fun r2 e3 h0 => ?_)
 refine oK (ref02_Valid_ok _ s_0 _ e3) rfl ⟨sr, trivial⟩ Tryz.call115 rfl (nx 2 rfl ?_)
 refine fB [8] h0 rfl (fun c4 h0 => ?_) fun c4 h0 => ?_
 ·exact nx 6 rfl (mQ (oi h0) rfl (sr))
 exact nx 7 rfl (mQ (oi h0) rfl (sr))
def ref07_node_l1 (n : Nat) (v_0 : TValue) : Nat → Int → Option (Unit ⊕ Int)
 | 0, _ => none
 | m + 1, i25 =>
 if i25 < (v_0.fKeys.length : Int) then
  ck ((0 : Int) ≤ i25 ∧ i25 < (v_0.fKeys.length : Int)) <|
  (ref07_text n (lat v_0.fKeys i25)).bind fun r28 =>
  if r28 = 0 then
   (
     if 0 < i25 then
      ck (inR (i25 - 1)) <|
      ck ((0 : Int) ≤ i25 - 1 ∧ i25 - 1 < (v_0.fKeys.length : Int)) <|
      ck ((0 : Int) ≤ i25 ∧ i25 < (v_0.fKeys.length : Int)) <|
      some (!Op.bytesLess (lat v_0.fKeys (i25 - 1)) (lat v_0.fKeys i25))
     else
      some false
    : Option Bool).bind fun t35 =>
   if t35 = true then
    some (.inr 1)
   else
    ck (inR (i25 + 1)) <|
    ref07_node_l1 n v_0 m (i25 + 1)
  else
   some (.inr r28)
 else
  some (.inl ())
def ref07_node (n : Nat) (v_0 : TValue) : Option Int :=
 (ref07_shaped v_0).bind fun r1 =>
 if (!r1) = true then
  some 1
 else
  (
    if v_0.fKind = 2 then
     (ref01_Valid v_0.fNum).bind fun r5 =>
     some (!r5)
    else
     some false
   : Option Bool).bind fun t7 =>
  if t7 = true then
   some 5
  else
   (ref07_text n v_0.fStr).bind fun r9 =>
   if r9 = 0 then
    jn (ref07_node_l1 n v_0 n 0) fun q40 =>
    some 0
   else
    some r9
set_option maxHeartbeats 4000000 in
theorem ref07_node_ok (n : Nat) (v_0 : TValue) (r : Int) (h0 : ref07_node n v_0 = some r) : PCalls Tryz.prog 201 [.agg (TValue.cs v_0)] (· = .p (eI r)) := by
 unfold ref07_node at h0
 refine pbodyA good Tryz.func201 rfl rfl rfl fun w0 => mP (fun v : Int => .p (eI v)) ?_
 refine nx 9 rfl (bd h0 fun r1 e2 h0 => ?_)
 refine oK (ref07_shaped_ok v_0 _ e2) rfl ⟨sr, trivial⟩ Tryz.call220 rfl (nx 2 rfl ?_)
 refine fB [8] h0 rfl (fun c3 h0 => ?_) fun c3 h0 => ?_
 ·exact nx 6 rfl (mQ (oi h0) rfl (sr))
 refine nx 4 rfl (bd h0 fun o42 h1 h0 => ?_)
 refine kN o42 (fun v43 => ⟨[(1, .ptr 1 0), (17, .p (eB v43))], [(1, (TValue.cs v_0).map .p)]⟩) ?_ ?_
 ·refine nx 1 rfl (fB [17] h0 rfl (fun c8 h0 => ?_) fun c8 h0 => ?_)
  ·exact nx 6 rfl (mQ (oi h0) rfl (sr))
  refine nx 7 rfl (bd h0 fun r9 e10 h0 => ?_)
  refine oK (ref07_text_ok _ v_0.fStr _ e10) rfl ⟨sr, trivial⟩ Tryz.call222 rfl (nx 7 rfl ?_)
  refine fN [22] h0 rfl (fun c11 h0 => ?_) fun c11 h0 => ?_
  ·refine nx 8 rfl ?_
   obtain ⟨o44, h1, hL0, hR0⟩ := jn_cut h0
   refine kEx 0 (fun v45 : Unit => o44 = .inl v45) (fun v45 => ⟨[], []⟩) (fun v45 hv => ?_) ?_
   ·have h0 := hL0 _ hv
    exact nx 6 rfl (mQ (oi h0) rfl (sr))
   refine lG (fun (q46 : Int) => ⟨[(1, .ptr 1 0), (4, .p (eI q46))], [(1, (TValue.cs v_0).map .p)]⟩) (fun m (q46 : Int) => ref07_node_l1 n v_0 m q46) (fun _ => rfl) 0 h1 (gE rfl rfl) ?_
   rintro m i25 h1
   replace h1 : ref07_node_l1 n v_0 (m + 1) i25 = some o44 := h1
   rw [ref07_node_l1] at h1
   refine nx 6 rfl (oLl (f := eS) rfl rfl ?_)
   refine nx 2 rfl (fD [28] h1 rfl (fun c26 h1 => ?_) fun c26 h1 => ?_)
   ·refine nx 10 rfl (oE h1 (fun _ => rfl) rfl rfl (fun _ => rfl) fun hk27 h1 => ?_)
    refine nx 1 rfl (bd h1 fun r28 e29 h1 => ?_)
    refine oK (ref07_text_ok _ (lat v_0.fKeys i25) _ e29) rfl ⟨sr, trivial⟩ Tryz.call222 rfl (nx 7 rfl ?_)
    refine fN [38] h1 rfl (fun c30 h1 => ?_) fun c30 h1 => ?_
    ·refine nx 3 rfl (bd h1 fun o47 h2 h1 => ?_)
     refine kN o47 (fun v48 => ⟨[(1, .ptr 1 0), (4, .p (eI i25)), (55, .p (eB v48))], [(1, (TValue.cs v_0).map .p)]⟩) ?_ ?_
     ·refine nx 1 rfl (fB [55] h1 rfl (fun c36 h1 => ?_) fun c36 h1 => ?_)
      ·exact nx 6 rfl (mQ (hR0 _ (oi h1).symm) rfl (sr))
      refine nx 4 rfl (oA h1 rfl rfl fun hk37 h1 => ?_)
      exact nx 2 rfl (eX (i25 + 1) h1 (gE rfl rfl))
     refine fD (p := 0 < i25) [] h2 rfl (fun c31 h2 => ?_) fun c31 h2 => ?_
     ·refine cc' h2 fun hk32 h2 => cc' h2 fun hk33 h2 => cc' h2 fun hk34 h2 => mD [(1, .ptr 1 0), (4, .p (eI i25))] rfl ⟨rfl, rfl, trivial⟩ rfl (dR 1 rfl ?_)
      refine dL (dt c31) rfl (dR 4 rfl ?_)
      refine dq (.p (eI (i25 - 1))) [42,45] rfl (fun _ e _ q => one_yes (ok_ar rfl rfl rfl (e _ _ rfl) rfl rfl hk32 q) rfl rfl (e _ _ rfl) (rfl)) rfl (dq (.rptr [eS (lat v_0.fKeys (i25 - 1))]) [42,44,46] rfl (fun _ e _ q => one_yes (op_at (f := eS) (l := v_0.fKeys) (fun x => [eS x]) rfl rfl rfl rfl rfl rfl (e _ _ rfl) rfl (e _ _ rfl) hk33 (fun _ => rfl) (fun _ => rfl) q) rfl rfl (e _ _ rfl) (rfl)) rfl ?_)
      refine dR 4 rfl (dq (.rptr [eS (lat v_0.fKeys i25)]) [42,50,51] rfl (fun _ e _ q => one_yes (op_at (f := eS) (l := v_0.fKeys) (fun x => [eS x]) rfl rfl rfl rfl rfl rfl (e _ _ rfl) rfl (e _ _ rfl) hk34 (fun _ => rfl) (fun _ => rfl) q) rfl rfl (e _ _ rfl) (rfl)) rfl ?_)
      refine dR 1 rfl (dq (.p (eB (!Op.bytesLess (lat v_0.fKeys (i25 - 1)) (lat v_0.fKeys i25)))) [42,48,53] rfl (fun _ e _ q => one_yes (ok_cmpS rfl rfl rfl (e _ _ rfl) (e _ _ rfl) rfl q) rfl rfl (e _ _ rfl) (rfl)) rfl ?_)
      refine dR 1 rfl (dE rfl ?_)
      exact nx 1 rfl (eX _ (oi h2).symm (gE rfl rfl))
     refine mD [(1, .ptr 1 0), (4, .p (eI i25))] rfl ⟨rfl, rfl, trivial⟩ rfl (dR 1 rfl ?_)
     refine dL (df c31) rfl (dR 14 rfl ?_)
     refine dE rfl (nx 1 rfl ?_)
     exact eX _ (oi h2).symm (gE rfl rfl)
    exact nx 7 rfl (mQ (hR0 _ (oi h1).symm) rfl (sr))
   exact nx 2 rfl (eXi _ (oi h1).symm (gE rfl rfl))
  exact nx 7 rfl (mQ (oi h0) rfl (sr))
 refine nx 5 rfl (fD [11, 12] h1 rfl (fun c4 h1 => ?_) fun c4 h1 => ?_)
 ·refine nx 2 rfl (bd h1 fun r5 e6 h1 => ?_)
  refine oK (ref01_Valid_ok v_0.fNum _ e6) rfl ⟨sr, trivial⟩ Tryz.call221 rfl (nx 3 rfl ?_)
  exact eX _ (oi h1).symm (gE rfl rfl)
 exact nx 6 rfl (eX _ (oi h1).symm (gE rfl rfl))
def ref07_check_l1 (r_ref07_check : TValue → Int → Int → Option (Int × Int)) (v_0 : TValue) (level_1 : Int) : Nat → Int → Int → Option (Int ⊕ (Int × Int))
 | 0, _, _ => none
 | m + 1, n16, i17 =>
 if i17 < (v_0.fItems.length : Int) then
  ck ((0 : Int) ≤ i17 ∧ i17 < (v_0.fItems.length : Int)) <|
  ck (inR (level_1 + 1)) <|
  (r_ref07_check (lat v_0.fItems i17) (level_1 + 1) n16).bind fun r21 =>
  if r21.1 = 0 then
   ck (inR (i17 + 1)) <|
   ref07_check_l1 r_ref07_check v_0 level_1 m r21.2 (i17 + 1)
  else
   some (.inr (r21.1, r21.2))
 else
  some (.inl n16)
def ref07_check : Nat → TValue → Int → Int → Option (Int × Int)
 | 0, _, _, _ => none
 | n + 1, v_0, level_1, before_2 =>
 if 32 < level_1 then
  some (4, before_2)
 else
  if 4096 ≤ before_2 then
   some (14, before_2)
  else
   (ref07_node n v_0).bind fun r3 =>
   if r3 = 0 then
    ck (inR (before_2 + 1)) <|
    jn (ref07_check_l1 (ref07_check n) v_0 level_1 n (before_2 + 1) 0) fun n27 =>
    some (0, n27)
   else
    some (r3, before_2)
set_option maxHeartbeats 4000000 in
theorem ref07_check_ok (n : Nat) : ∀ (v_0 : TValue) (level_1 : Int) (before_2 : Int) (r : Int × Int), ref07_check n v_0 level_1 before_2 = some r → PCalls Tryz.prog 182 [.agg (TValue.cs v_0), eI level_1, eI before_2] (· = .tuple [.p (eI r.1), .p (eI r.2)]) := by
 induction n with
 | zero => intro v_0 level_1 before_2 r h0; cases h0
 | succ n ih =>
 have ih_ref07_check_ok := ih
 intro v_0 level_1 before_2 r h0
 rw [ref07_check] at h0
 refine pbodyA good Tryz.func182 rfl rfl rfl fun w0 => mP (fun v : Int × Int => .tuple [.p (eI v.1), .p (eI v.2)]) ?_
 refine nx 12 rfl (fD [14] h0 rfl (fun c1 h0 => ?_) fun c1 h0 => ?_)
 ·exact nx 8 rfl (mQ (oi h0) rfl (sub_tuple ⟨sr, sr, trivial⟩))
 refine nx 8 rfl (fD [17] h0 rfl (fun c2 h0 => ?_) fun c2 h0 => ?_)
 ·exact nx 8 rfl (mQ (oi h0) rfl (sub_tuple ⟨sr, sr, trivial⟩))
 refine nx 6 rfl (bd h0 fun r3 e4 h0 => ?_)
 refine oK (ref07_node_ok _ v_0 _ e4) rfl ⟨sr, trivial⟩ Tryz.call201 rfl (nx 7 rfl ?_)
 refine fN [22] h0 rfl (fun c5 h0 => ?_) fun c5 h0 => ?_
 ·refine nx 5 rfl (oA h0 rfl rfl fun hk6 h0 => ?_)
  refine nx 8 rfl ?_
  obtain ⟨o29, h1, hL0, hR0⟩ := jn_cut h0
  refine kEx 0 (fun v30 : Int => o29 = .inl v30) (fun v30 => ⟨[(9, .p (eI v30))], []⟩) (fun v30 hv => ?_) ?_
  ·have h0 := hL0 _ hv
   exact nx 8 rfl (mQ (oi h0) rfl (sub_tuple ⟨sr, sr, trivial⟩))
  refine lG (fun (q31 : Int × Int) => ⟨[(1, .p (eI level_1)), (3, .ptr 3 0), (9, .p (eI q31.1)), (10, .p (eI q31.2))], [(3, (TValue.cs v_0).map .p)]⟩) (fun m (q31 : Int × Int) => ref07_check_l1 (ref07_check n) v_0 level_1 m q31.1 q31.2) (fun _ => rfl) (before_2 + 1, 0) h1 (gE rfl rfl) ?_
  rintro m ⟨n16, i17⟩ h1
  replace h1 : ref07_check_l1 (ref07_check n) v_0 level_1 (m + 1) n16 i17 = some o29 := h1
  rw [ref07_check_l1] at h1
  refine nx 6 rfl (oLl (f := eTValue) rfl rfl ?_)
  refine nx 2 rfl (fD [31] h1 rfl (fun c18 h1 => ?_) fun c18 h1 => ?_)
  ·refine nx 9 rfl (oE h1 TValue.cells_eq rfl rfl (fun _ => rfl) fun hk19 h1 => ?_)
   refine nx 2 rfl (oA h1 rfl rfl fun hk20 h1 => ?_)
   refine nx 1 rfl (bd h1 fun r21 e22 h1 => ?_)
   refine oK (ih_ref07_check_ok (lat v_0.fItems i17) (level_1 + 1) n16 _ e22) rfl ⟨sr, sr, sr, trivial⟩ Tryz.call182 rfl (nx 12 rfl ?_)
   refine fN [47] h1 rfl (fun c23 h1 => ?_) fun c23 h1 => ?_
   ·refine nx 8 rfl (oA h1 rfl rfl fun hk24 h1 => ?_)
    exact nx 2 rfl (eX (r21.2, i17 + 1) h1 (gE rfl rfl))
   refine nx 8 rfl (mG (gE (t := ⟨[(6, .p (eI r21.1)), (7, .p (eI r21.2))], []⟩) rfl rfl) ?_)
   exact nx 1 rfl (mQ (hR0 _ (oi h1).symm) rfl (sub_tuple ⟨sr, sr, trivial⟩))
  exact nx 2 rfl (eXi _ (oi h1).symm (gE rfl rfl))
 exact nx 9 rfl (mQ (oi h0) rfl (sub_tuple ⟨sr, sr, trivial⟩))
def ref07_Check (n : Nat) (v_0 : TValue) : Option Int :=
 (ref07_check n v_0 1 0).bind fun r1 =>
 some r1.1
set_option maxHeartbeats 4000000 in
theorem ref07_Check_ok (n : Nat) (v_0 : TValue) (r : Int) (h0 : ref07_Check n v_0 = some r) : PCalls Tryz.prog 151 [.agg (TValue.cs v_0)] (· = .p (eI r)) := by
 unfold ref07_Check at h0
 refine pbodyA good Tryz.func151 rfl rfl rfl fun w0 => mP (fun v : Int => .p (eI v)) ?_
 refine nx 8 rfl (bd h0 fun r1 e2 h0 => ?_)
 refine oK (ref07_check_ok _ v_0 1 0 _ e2) rfl ⟨sr, sr, sr, trivial⟩ Tryz.call182 rfl (nx 12 rfl ?_)
 exact mQ (oi h0) rfl (sr)
def ref14_node (n : Nat) (e_0 : TExpr) : Option Int :=
 (ref14_shaped e_0).bind fun r1 =>
 if (!r1) = true then
  some 1
 else
  if e_0.fKind = 1 then
   (ref07_Check n e_0.fValue).bind fun r5 =>
   some r5
  else
   (
     (ref14_named e_0.fKind).bind fun r7 =>
     if r7 = true then
      (ref06_Identifier n e_0.fName).bind fun r10 =>
      if (!r10) = true then
       some true
      else
       if e_0.fKind = 4 then
        some false
       else
        (ref14_Reserved e_0.fName).bind fun r14 =>
        some r14
     else
      some false
    : Option Bool).bind fun t16 =>
   if t16 = true then
    some 7
   else
    (
      if e_0.fKey = ([] : Bytes) then
       some false
      else
       (ref14_Name n e_0.fKey).bind fun r19 =>
       some (!r19)
     : Option Bool).bind fun t21 =>
    if t21 = true then
     some 7
    else
     some 0
set_option maxHeartbeats 4000000 in
theorem ref14_node_ok (n : Nat) (e_0 : TExpr) (r : Int) (h0 : ref14_node n e_0 = some r) : PCalls Tryz.prog 112 [.agg (TExpr.cs e_0)] (· = .p (eI r)) := by
 unfold ref14_node at h0
 refine pbodyA good Tryz.func112 rfl rfl rfl fun w0 => mP (fun v : Int => .p (eI v)) ?_
 refine nx 9 rfl (bd h0 fun r1 e2 h0 => ?_)
 refine oK (ref14_shaped_ok e_0 _ e2) rfl ⟨sr, trivial⟩ Tryz.call150 rfl (nx 2 rfl ?_)
 refine fB [5] h0 rfl (fun c3 h0 => ?_) fun c3 h0 => ?_
 ·exact nx 6 rfl (mQ (oi h0) rfl (sr))
 refine nx 9 rfl (fD [8] h0 rfl (fun c4 h0 => ?_) fun c4 h0 => ?_)
 ·refine nx 5 rfl (bd h0 fun r5 e6 h0 => ?_)
  refine oK (ref07_Check_ok _ e_0.fValue _ e6) rfl ⟨sr, trivial⟩ Tryz.call151 rfl (nx 3 rfl ?_)
  exact mQ (oi h0) rfl (sr)
 refine nx 4 rfl (bd h0 fun o25 h1 h0 => ?_)
 refine kN o25 (fun v26 => ⟨[(1, .ptr 1 0), (30, .p (eB v26))], [(1, (TExpr.cs e_0).map .p)]⟩) ?_ ?_
 ·refine nx 1 rfl (fB [30] h0 rfl (fun c17 h0 => ?_) fun c17 h0 => ?_)
  ·exact nx 6 rfl (mQ (oi h0) rfl (sr))
  refine nx 4 rfl (bd h0 fun o27 h1 h0 => ?_)
  refine kN o27 (fun v28 => ⟨[(39, .p (eB v28))], []⟩) ?_ ?_
  ·refine nx 1 rfl (fB [39] h0 rfl (fun c22 h0 => ?_) fun c22 h0 => ?_)
   ·exact nx 6 rfl (mQ (oi h0) rfl (sr))
   exact nx 7 rfl (mQ (oi h0) rfl (sr))
  refine nx 3 rfl (oS rfl rfl ?_)
  refine nx 1 rfl (fN [33, 34] h1 rfl (fun c18 h1 => ?_) fun c18 h1 => ?_)
  ·exact nx 6 rfl (eX _ (oi h1).symm (gE rfl rfl))
  refine nx 2 rfl (bd h1 fun r19 e20 h1 => ?_)
  refine oK (ref14_Name_ok _ e_0.fKey _ e20) rfl ⟨sr, trivial⟩ Tryz.call123 rfl (nx 3 rfl ?_)
  exact eX _ (oi h1).symm (gE rfl rfl)
 refine nx 3 rfl (bd h1 fun r7 e8 h1 => ?_)
 refine oK (ref14_named_ok e_0.fKind _ e8) rfl ⟨sr, trivial⟩ Tryz.call152 rfl (nx 1 rfl ?_)
 refine fB [14, 15] h1 rfl (fun c9 h1 => ?_) fun c9 h1 => ?_
 ·refine nx 2 rfl (bd h1 fun r10 e11 h1 => ?_)
  refine oK (ref06_Identifier_ok _ e_0.fName _ e11) rfl ⟨sr, trivial⟩ Tryz.call114 rfl (nx 2 rfl ?_)
  refine fB [19, 20] h1 rfl (fun c12 h1 => ?_) fun c12 h1 => ?_
  ·exact nx 11 rfl (eX _ (oi h1).symm (gE rfl rfl))
  refine nx 4 rfl (fN [23, 24] h1 rfl (fun c13 h1 => ?_) fun c13 h1 => ?_)
  ·exact nx 7 rfl (eX _ (oi h1).symm (gE rfl rfl))
  refine nx 2 rfl (bd h1 fun r14 e15 h1 => ?_)
  refine oK (ref14_Reserved_ok e_0.fName _ e15) rfl ⟨sr, trivial⟩ Tryz.call153 rfl (nx 4 rfl ?_)
  exact eX _ (oi h1).symm (gE rfl rfl)
 exact nx 16 rfl (eX _ (oi h1).symm (gE rfl rfl))
def ref14_check_l1 (r_ref14_check : TExpr → Int → Int → Option (Int × Int)) (e_0 : TExpr) (level_1 : Int) : Nat → Int → Int → Int → Option (Int × Int)
 | 0, _, _, _ => none
 | m + 1, k17, n18, i19 =>
 (
   if i19 < (e_0.fKids.length : Int) then
    some (decide (k17 = 0))
   else
    some false
  : Option Bool).bind fun t21 =>
 if t21 = true then
  ck ((0 : Int) ≤ i19 ∧ i19 < (e_0.fKids.length : Int)) <|
  ck (inR (level_1 + 1)) <|
  (r_ref14_check (lat e_0.fKids i19) (level_1 + 1) n18).bind fun r25 =>
  ck (inR (i19 + 1)) <|
  ref14_check_l1 r_ref14_check e_0 level_1 m r25.1 r25.2 (i19 + 1)
 else
  some (k17, n18)
def ref14_check : Nat → TExpr → Int → Int → Option (Int × Int)
 | 0, _, _, _ => none
 | n + 1, e_0, level_1, before_2 =>
 if 32 < level_1 then
  some (4, 0)
 else
  if 4096 ≤ before_2 then
   some (14, 0)
  else
   (ref14_node n e_0).bind fun r3 =>
   ck (inR (before_2 + 1)) <|
   (ref14_check_l1 (ref14_check n) e_0 level_1 n r3 (before_2 + 1) 0).bind fun q33 =>
   some (q33.1, q33.2)
set_option maxHeartbeats 4000000 in
theorem ref14_check_ok (n : Nat) : ∀ (e_0 : TExpr) (level_1 : Int) (before_2 : Int) (r : Int × Int), ref14_check n e_0 level_1 before_2 = some r → PCalls Tryz.prog 72 [.agg (TExpr.cs e_0), eI level_1, eI before_2] (· = .tuple [.p (eI r.1), .p (eI r.2)]) := by
 induction n with
 | zero => intro e_0 level_1 before_2 r h0; cases h0
 | succ n ih =>
 have ih_ref14_check_ok := ih
 intro e_0 level_1 before_2 r h0
 rw [ref14_check] at h0
 refine pbodyA good Tryz.func72 rfl rfl rfl fun w0 => mP (fun v : Int × Int => .tuple [.p (eI v.1), .p (eI v.2)]) ?_
 refine nx 12 rfl (fD [12] h0 rfl (fun c1 h0 => ?_) fun c1 h0 => ?_)
 ·exact nx 7 rfl (mQ (oi h0) rfl (sub_tuple ⟨sr, sr, trivial⟩))
 refine nx 8 rfl (fD [14] h0 rfl (fun c2 h0 => ?_) fun c2 h0 => ?_)
 ·exact nx 7 rfl (mQ (oi h0) rfl (sub_tuple ⟨sr, sr, trivial⟩))
 refine nx 5 rfl (bd h0 fun r3 e4 h0 => ?_)
 refine oK (ref14_node_ok _ e_0 _ e4) rfl ⟨sr, trivial⟩ Tryz.call112 rfl (nx 5 rfl ?_)
 refine oA h0 rfl rfl fun hk5 h0 => nx 8 rfl (bd h0 fun o35 h1 h0 => ?_)
 refine kE 0 o35 (fun v36 => ⟨[(8, .p (eI v36.1)), (9, .p (eI v36.2))], []⟩) ?_ ?_
 ·exact nx 9 rfl (mQ (oi h0) rfl (sub_tuple ⟨sr, sr, trivial⟩))
 refine lG (fun (q37 : Int × Int × Int) => ⟨[(1, .p (eI level_1)), (3, .ptr 3 0), (8, .p (eI q37.1)), (9, .p (eI q37.2.1)), (10, .p (eI q37.2.2))], [(3, (TExpr.cs e_0).map .p)]⟩) (fun m (q37 : Int × Int × Int) => ref14_check_l1 (ref14_check n) e_0 level_1 m q37.1 q37.2.1 q37.2.2) (fun _ => rfl) (r3, before_2 + 1, 0) h1 (gE rfl rfl) ?_
 rintro m ⟨k17, n18, i19⟩ h1
 replace h1 : ref14_check_l1 (ref14_check n) e_0 level_1 (m + 1) k17 n18 i19 = some o35 := h1
 rw [ref14_check_l1] at h1
 refine nx 2 rfl (bd h1 fun o38 h2 h1 => ?_)
 refine kN o38 (fun v39 => ⟨[(1, .p (eI level_1)), (3, .ptr 3 0), (8, .p (eI k17)), (9, .p (eI n18)), (10, .p (eI i19)), (27, .p (eB v39))], [(3, (TExpr.cs e_0).map .p)]⟩) ?_ ?_
 ·refine nx 1 rfl (fB [27] h1 rfl (fun c22 h1 => ?_) fun c22 h1 => ?_)
  ·refine nx 8 rfl (oE h1 TExpr.cells_eq rfl rfl (fun _ => rfl) fun hk23 h1 => ?_)
   refine nx 2 rfl (oA h1 rfl rfl fun hk24 h1 => ?_)
   refine nx 1 rfl (bd h1 fun r25 e26 h1 => ?_)
   refine oK (ih_ref14_check_ok (lat e_0.fKids i19) (level_1 + 1) n18 _ e26) rfl ⟨sr, sr, sr, trivial⟩ Tryz.call72 rfl (nx 8 rfl ?_)
   exact oA h1 rfl rfl fun hk27 h1 => nx 2 rfl (eX (r25.1, r25.2, i19 + 1) h1 (gE rfl rfl))
  exact nx 2 rfl (eXi _ (oi h1).symm (gE rfl rfl))
 refine nx 4 rfl (oLl (f := eTExpr) rfl rfl ?_)
 refine nx 2 rfl (fD [23, 24] h2 rfl (fun c20 h2 => ?_) fun c20 h2 => ?_)
 ·exact nx 4 rfl (eX _ (oi h2).symm (gE rfl rfl))
 exact nx 4 rfl (eX _ (oi h2).symm (gE rfl rfl))
def ref14_Check (n : Nat) (e_0 : TExpr) : Option Int :=
 (ref14_check n e_0 1 0).bind fun r1 =>
 some r1.1
set_option maxHeartbeats 4000000 in
theorem ref14_Check_ok (n : Nat) (e_0 : TExpr) (r : Int) (h0 : ref14_Check n e_0 = some r) : PCalls Tryz.prog 26 [.agg (TExpr.cs e_0)] (· = .p (eI r)) := by
 unfold ref14_Check at h0
 refine pbodyA good Tryz.func26 rfl rfl rfl fun w0 => mP (fun v : Int => .p (eI v)) ?_
 refine nx 8 rfl (bd h0 fun r1 e2 h0 => ?_)
 refine oK (ref14_check_ok _ e_0 1 0 _ e2) rfl ⟨sr, sr, sr, trivial⟩ Tryz.call72 rfl (nx 12 rfl ?_)
 exact mQ (oi h0) rfl (sr)
def law16_one_l1 (n : Nat) (l_0 : List TExpr) : Nat → Int → Option (Unit ⊕ Bool)
 | 0, _ => none
 | m + 1, i13 =>
 if i13 < (l_0.length : Int) then
  (
    ck ((0 : Int) ≤ i13 ∧ i13 < (l_0.length : Int)) <|
    (ref14_Small n (lat l_0 i13) 300).bind fun r16 =>
    if (!r16) = true then
     some true
    else
     ck ((0 : Int) ≤ i13 ∧ i13 < (l_0.length : Int)) <|
     (ref14_Check n (lat l_0 i13)).bind fun r20 =>
     some (!decide (r20 = 0))
   : Option Bool).bind fun t22 =>
  if t22 = true then
   some (.inr false)
  else
   ck (inR (i13 + 1)) <|
   law16_one_l1 n l_0 m (i13 + 1)
 else
  some (.inl ())
def law16_one (n : Nat) (l_0 : List TExpr) : Option Bool :=
 jn (law16_one_l1 n l_0 n 0) fun q26 =>
 some true
set_option maxHeartbeats 4000000 in
theorem law16_one_ok (n : Nat) (l_0 : List TExpr) (r : Bool) (h0 : law16_one n l_0 = some r) : PCalls Tryz.prog 7 [eL eTExpr l_0] (· = .p (eB r)) := by
 unfold law16_one at h0
 refine pbodyA good Tryz.func7 rfl rfl rfl fun w0 => mP (fun v : Bool => .p (eB v)) ?_
 refine nx 10 rfl ?_
 obtain ⟨o28, h1, hL0, hR0⟩ := jn_cut h0
 refine kEx 0 (fun v29 : Unit => o28 = .inl v29) (fun v29 => ⟨[], []⟩) (fun v29 hv => ?_) ?_
 ·have h0 := hL0 _ hv
  exact nx 6 rfl (mQ (oi h0) rfl (sr))
 refine lG (fun (q30 : Int) => ⟨[(0, .p (eL eTExpr l_0)), (3, .p (eI q30))], []⟩) (fun m (q30 : Int) => law16_one_l1 n l_0 m q30) (fun _ => rfl) 0 h1 (gE rfl rfl) ?_
 rintro m i13 h1
 replace h1 : law16_one_l1 n l_0 (m + 1) i13 = some o28 := h1
 rw [law16_one_l1] at h1
 refine nx 5 rfl (oLl (f := eTExpr) rfl rfl ?_)
 refine nx 2 rfl (fD [7] h1 rfl (fun c14 h1 => ?_) fun c14 h1 => ?_)
 ·refine nx 5 rfl (bd h1 fun o31 h2 h1 => ?_)
  refine kN o31 (fun v32 => ⟨[(0, .p (eL eTExpr l_0)), (3, .p (eI i13)), (23, .p (eB v32))], []⟩) ?_ ?_
  ·refine nx 1 rfl (fB [23] h1 rfl (fun c23 h1 => ?_) fun c23 h1 => ?_)
   ·exact nx 6 rfl (mQ (hR0 _ (oi h1).symm) rfl (sr))
   refine nx 4 rfl (oA h1 rfl rfl fun hk24 h1 => ?_)
   exact nx 2 rfl (eX (i13 + 1) h1 (gE rfl rfl))
  refine nx 3 rfl (oE h2 TExpr.cells_eq rfl rfl (fun _ => rfl) fun hk15 h2 => ?_)
  refine nx 1 rfl (bd h2 fun r16 e17 h2 => ?_)
  refine oK (ref14_Small_ok _ (lat l_0 i13) 300 _ e17) rfl ⟨sr, sr, trivial⟩ Tryz.call25 rfl (nx 2 rfl ?_)
  refine fB [15, 16] h2 rfl (fun c18 h2 => ?_) fun c18 h2 => ?_
  ·exact nx 8 rfl (eX _ (oi h2).symm (gE rfl rfl))
  refine nx 2 rfl (oE h2 TExpr.cells_eq rfl rfl (fun _ => rfl) fun hk19 h2 => ?_)
  refine nx 1 rfl (bd h2 fun r20 e21 h2 => ?_)
  refine oK (ref14_Check_ok _ (lat l_0 i13) _ e21) rfl ⟨sr, trivial⟩ Tryz.call26 rfl (nx 3 rfl ?_)
  exact eX _ (oi h2).symm (gE rfl rfl)
 exact nx 2 rfl (eXi _ (oi h1).symm (gE rfl rfl))
def ref14_Nodes_l1 (r_ref14_Nodes : TExpr → Option Int) (e_0 : TExpr) : Nat → Int → Int → Option Int
 | 0, _, _ => none
 | m + 1, n9, i10 =>
 if i10 < (e_0.fKids.length : Int) then
  ck ((0 : Int) ≤ i10 ∧ i10 < (e_0.fKids.length : Int)) <|
  (r_ref14_Nodes (lat e_0.fKids i10)).bind fun r13 =>
  ck (inR (n9 + r13)) <|
  ck (inR (i10 + 1)) <|
  ref14_Nodes_l1 r_ref14_Nodes e_0 m (n9 + r13) (i10 + 1)
 else
  some n9
def ref14_Nodes : Nat → TExpr → Option Int
 | 0, _ => none
 | n + 1, e_0 =>
 (ref14_Nodes_l1 (ref14_Nodes n) e_0 n 1 0).bind fun n19 =>
 some n19
set_option maxHeartbeats 4000000 in
theorem ref14_Nodes_ok (n : Nat) : ∀ (e_0 : TExpr) (r : Int), ref14_Nodes n e_0 = some r → PCalls Tryz.prog 113 [.agg (TExpr.cs e_0)] (· = .p (eI r)) := by
 induction n with
 | zero => intro e_0 r h0; cases h0
 | succ n ih =>
 have ih_ref14_Nodes_ok := ih
 intro e_0 r h0
 rw [ref14_Nodes] at h0
 refine pbodyA good Tryz.func113 rfl rfl rfl fun w0 => mP (fun v : Int => .p (eI v)) ?_
 refine nx 15 rfl (bd h0 fun o21 h1 h0 => ?_)
 refine kE 0 o21 (fun v22 => ⟨[(3, .p (eI v22))], []⟩) ?_ ?_
 ·exact nx 7 rfl (mQ (oi h0) rfl (sr))
 refine lG (fun (q23 : Int × Int) => ⟨[(1, .ptr 1 0), (3, .p (eI q23.1)), (4, .p (eI q23.2))], [(1, (TExpr.cs e_0).map .p)]⟩) (fun m (q23 : Int × Int) => ref14_Nodes_l1 (ref14_Nodes n) e_0 m q23.1 q23.2) (fun _ => rfl) (1, 0) h1 (gE rfl rfl) ?_
 rintro m ⟨n9, i10⟩ h1
 replace h1 : ref14_Nodes_l1 (ref14_Nodes n) e_0 (m + 1) n9 i10 = some o21 := h1
 rw [ref14_Nodes_l1] at h1
 refine nx 6 rfl (oLl (f := eTExpr) rfl rfl ?_)
 refine nx 2 rfl (fD [9] h1 rfl (fun c11 h1 => ?_) fun c11 h1 => ?_)
 ·refine nx 9 rfl (oE h1 TExpr.cells_eq rfl rfl (fun _ => rfl) fun hk12 h1 => ?_)
  refine nx 1 rfl (bd h1 fun r13 e14 h1 => ?_)
  refine oK (ih_ref14_Nodes_ok (lat e_0.fKids i10) _ e14) rfl ⟨sr, trivial⟩ Tryz.call113 rfl (oA h1 rfl rfl fun hk15 h1 => ?_)
  refine nx 4 rfl (oA h1 rfl rfl fun hk16 h1 => ?_)
  exact nx 2 rfl (eX (n9 + r13, i10 + 1) h1 (gE rfl rfl))
 exact nx 2 rfl (eXi _ (oi h1).symm (gE rfl rfl))
def ref16_left_l1 (n : Nat) (b_0 : TBody) : Nat → Int → Int → Option (Int ⊕ Int)
 | 0, _, _ => none
 | m + 1, n22, i23 =>
 (
   if i23 < (b_0.fAttrs.length : Int) then
    some (decide (0 ≤ n22))
   else
    some false
  : Option Bool).bind fun t25 =>
 if t25 = true then
  ck ((0 : Int) ≤ i23 ∧ i23 < (b_0.fAttrs.length : Int)) <|
  ck (inR (n22 + 1)) <|
  (ref14_Small n ((lat b_0.fAttrs i23).fExpr) (n22 + 1)).bind fun r29 =>
  if (!r29) = true then
   some (.inr (-1))
  else
   ck ((0 : Int) ≤ i23 ∧ i23 < (b_0.fAttrs.length : Int)) <|
   (ref14_Nodes n ((lat b_0.fAttrs i23).fExpr)).bind fun r33 =>
   ck (inR (n22 - r33)) <|
   ck (inR (i23 + 1)) <|
   ref16_left_l1 n b_0 m (n22 - r33) (i23 + 1)
 else
  some (.inl n22)
def ref16_left_l2 (r_ref16_left : TBody → Int → Int → Option Int) (b_0 : TBody) (levels_2 : Int) : Nat → Int → Int → Option Int
 | 0, _, _ => none
 | m + 1, n52, i53 =>
 (
   if i53 < (b_0.fBlocks.length : Int) then
    some (decide (0 ≤ n52))
   else
    some false
  : Option Bool).bind fun t55 =>
 if t55 = true then
  ck ((0 : Int) ≤ i53 ∧ i53 < (b_0.fBlocks.length : Int)) <|
  ck ((0 : Int) ≤ i53 ∧ i53 < (b_0.fBlocks.length : Int)) <|
  ck (inR (n52 - (((lat b_0.fBlocks i53).fLabels).length : Int))) <|
  ck (inR (levels_2 - 1)) <|
  (r_ref16_left ((lat b_0.fBlocks i53).fBody) (n52 - (((lat b_0.fBlocks i53).fLabels).length : Int)) (levels_2 - 1)).bind fun r61 =>
  ck (inR (i53 + 1)) <|
  ref16_left_l2 r_ref16_left b_0 levels_2 m r61 (i53 + 1)
 else
  some n52
def ref16_left : Nat → TBody → Int → Int → Option Int
 | 0, _, _, _ => none
 | n + 1, b_0, nodes_1, levels_2 =>
 (
   if levels_2 < 1 then
    some true
   else
    ck (inR ((b_0.fAttrs.length : Int) + (b_0.fBlocks.length : Int))) <|
    some (decide (nodes_1 < (b_0.fAttrs.length : Int) + (b_0.fBlocks.length : Int)))
  : Option Bool).bind fun t3 =>
 if t3 = true then
  some (-1)
 else
  ck (inR (nodes_1 - (b_0.fAttrs.length : Int))) <|
  ck (inR ((nodes_1 - (b_0.fAttrs.length : Int)) - (b_0.fBlocks.length : Int))) <|
  jn (ref16_left_l1 n b_0 n ((nodes_1 - (b_0.fAttrs.length : Int)) - (b_0.fBlocks.length : Int)) 0) fun n39 =>
  (ref16_left_l2 (ref16_left n) b_0 levels_2 n n39 0).bind fun n66 =>
  some n66
set_option maxHeartbeats 4000000 in
theorem ref16_left_ok (n : Nat) : ∀ (b_0 : TBody) (nodes_1 : Int) (levels_2 : Int) (r : Int), ref16_left n b_0 nodes_1 levels_2 = some r → PCalls Tryz.prog 73 [.agg (TBody.cs b_0), eI nodes_1, eI levels_2] (· = .p (eI r)) := by
 induction n with
 | zero => intro b_0 nodes_1 levels_2 r h0; cases h0
 | succ n ih =>
 have ih_ref16_left_ok := ih
 intro b_0 nodes_1 levels_2 r h0
 rw [ref16_left] at h0
 refine pbodyA good Tryz.func73 rfl rfl rfl fun w0 => mP (fun v : Int => .p (eI v)) ?_
 refine nx 7 rfl (bd h0 fun o72 h1 h0 => ?_)
 refine kN o72 (fun v73 => ⟨[(1, .p (eI nodes_1)), (2, .p (eI levels_2)), (3, .ptr 3 0), (22, .p (eB v73))], [(3, (TBody.cs b_0).map .p)]⟩) ?_ ?_
 ·refine nx 1 rfl (fB [22] h0 rfl (fun c4 h0 => ?_) fun c4 h0 => ?_)
  ·exact nx 6 rfl (mQ (oi h0) rfl (sr))
  refine nx 7 rfl (oLl (f := eTAttribute) rfl rfl ?_)
  refine oA h0 rfl rfl fun hk5 h0 => nx 2 rfl (oLl (f := eTBlock) rfl rfl ?_)
  refine oA h0 rfl rfl fun hk6 h0 => nx 8 rfl ?_
  obtain ⟨o74, h1, hL0, hR0⟩ := jn_cut h0
  refine kEx 0 (fun v75 : Int => o74 = .inl v75) (fun v75 => ⟨[(2, .p (eI levels_2)), (3, .ptr 3 0), (7, .p (eI v75))], [(3, (TBody.cs b_0).map .p)]⟩) (fun v75 hv => ?_) ?_
  ·have h0 := hL0 _ hv
   refine nx 7 rfl (bd h0 fun o76 h1 h0 => ?_)
   refine kE 2 o76 (fun v77 => ⟨[(7, .p (eI v77))], []⟩) ?_ ?_
   ·exact nx 7 rfl (mQ (oi h0) rfl (sr))
   refine lG (fun (q78 : Int × Int) => ⟨[(2, .p (eI levels_2)), (3, .ptr 3 0), (7, .p (eI q78.1)), (9, .p (eI q78.2))], [(3, (TBody.cs b_0).map .p)]⟩) (fun m (q78 : Int × Int) => ref16_left_l2 (ref16_left n) b_0 levels_2 m q78.1 q78.2) (fun _ => rfl) (v75, 0) h1 (gE rfl rfl) ?_
   rintro m ⟨n52, i53⟩ h1
   replace h1 : ref16_left_l2 (ref16_left n) b_0 levels_2 (m + 1) n52 i53 = some o76 := h1
   rw [ref16_left_l2] at h1
   refine nx 2 rfl (bd h1 fun o79 h2 h1 => ?_)
   refine kN o79 (fun v80 => ⟨[(2, .p (eI levels_2)), (3, .ptr 3 0), (7, .p (eI n52)), (9, .p (eI i53)), (70, .p (eB v80))], [(3, (TBody.cs b_0).map .p)]⟩) ?_ ?_
   ·refine nx 1 rfl (fB [70] h1 rfl (fun c56 h1 => ?_) fun c56 h1 => ?_)
    ·refine nx 4 rfl (cc' h1 fun hk57 h1 => ?_)
     refine cc' h1 fun hk58 h1 => cc' h1 fun hk59 h1 => cc' h1 fun hk60 h1 => bd h1 fun r61 e62 h1 => mG (gE (t := ⟨[(2, .p (eI levels_2)), (3, .ptr 3 0), (7, .p (eI n52)), (9, .p (eI i53))], [(3, (TBody.cs b_0).map .p)]⟩) rfl rfl) (mS ⟨1, [18], (fun _ => none), (by2 [(2, .p (eI levels_2)), (3, .ptr 3 0), (7, .p (eI n52)), (9, .p (eI i53))] [(2, .p (eI levels_2)), (3, .ptr 3 0), (9, .p (eI i53))]), (fun _ => [(3, [.p (eL eTAttribute b_0.fAttrs), .p (eL eTBlock b_0.fBlocks)])])⟩ rfl rfl rfl ⟨rfl, rfl, rfl, rfl, trivial⟩ (lt1 ⟨rfl, rfl, rfl, trivial⟩) rfl rfl rfl rfl ?_)
     refine ds_pure (fun _ => .ptr 3 1) rfl rfl rfl (all2 rfl (fun _ => rfl)) (lt1 rfl) (stg_no rfl (stg_yes [(3, _)] ⟨.inl rfl, trivial⟩ (fun sl hsl K hK => one_op rfl (ok_fieldAddrP rfl rfl rfl rfl rfl rfl rfl rfl (hsl _ _ rfl) hK)) stg_nil)) (ds_pure (fun _ => .p (eL eTBlock b_0.fBlocks)) rfl rfl rfl (all2 rfl (fun _ => rfl)) (lt1 rfl) (stg_no rfl (stg_yes [(73, _)] ⟨.inr ⟨0, _, rfl, rfl, rfl⟩, trivial⟩ (fun sl hsl K hK => one_op rfl (ok_loadP1 rfl rfl rfl rfl rfl (hsl _ _ rfl) rfl rfl hK)) stg_nil)) ?_)
     refine ds_pure (fun _ => .p (eI i53)) rfl rfl rfl (all2 rfl (fun _ => rfl)) (lt1 rfl) (stg_no rfl (stg_yes [(9, _)] ⟨.inl rfl, trivial⟩ (fun sl hsl K hK => one_op rfl (ok_move rfl rfl rfl (hsl _ _ rfl) hK)) stg_nil)) (ds_pure (fun _ => .rptr (TBlock.cs (lat b_0.fBlocks i53))) rfl rfl rfl (all2 rfl (fun _ => rfl)) (lt1 rfl) (stg_no rfl (stg_yes [(74, _), (75, _)] ⟨.inr ⟨1, _, rfl, rfl, rfl⟩, .inr ⟨2, _, rfl, rfl, rfl⟩, trivial⟩ (fun sl hsl K hK => one_op rfl (op_at (f := eTBlock) (l := b_0.fBlocks) TBlock.cs rfl rfl rfl rfl rfl rfl (hsl _ _ rfl) rfl (hsl _ _ rfl) hk57 TBlock.cells_eq (fun _ => rfl) hK)) stg_nil)) ?_)
     refine ds_pure (fun _ => .rptr (List.drop 2 (TBlock.cs (lat b_0.fBlocks i53)))) rfl rfl rfl (all2 rfl (fun _ => rfl)) (lt1 rfl) (stg_no rfl (stg_yes [(76, _)] ⟨.inr ⟨3, _, rfl, rfl, rfl⟩, trivial⟩ (fun sl hsl K hK => one_op rfl (ok_fieldAddrR rfl rfl rfl rfl rfl rfl rfl rfl (hsl _ _ rfl) hK)) stg_nil)) (ds_pure (fun _ => .p (.agg (TBody.cs ((lat b_0.fBlocks i53).fBody)))) rfl rfl rfl (all2 rfl (fun _ => rfl)) (lt1 rfl) (stg_no rfl (stg_yes [(77, _)] ⟨.inr ⟨4, _, rfl, rfl, rfl⟩, trivial⟩ (fun sl hsl K hK => one_op rfl (ok_loadRA rfl rfl rfl rfl rfl (hsl _ _ rfl) rfl hK)) stg_nil)) ?_)
     refine ds_pure (fun _ => .p (eI n52)) rfl rfl rfl (all2 rfl (fun _ => rfl)) (lt1 rfl) (stg_no rfl (stg_yes [(7, _)] ⟨.inl rfl, trivial⟩ (fun sl hsl K hK => one_op rfl (ok_move rfl rfl rfl (hsl _ _ rfl) hK)) stg_nil)) (ds_pure (fun _ => .ptr 3 1) rfl rfl rfl (all2 rfl (fun _ => rfl)) (lt1 rfl) (stg_no rfl (stg_yes [(3, _)] ⟨.inl rfl, trivial⟩ (fun sl hsl K hK => one_op rfl (ok_fieldAddrP rfl rfl rfl rfl rfl rfl rfl rfl (hsl _ _ rfl) hK)) stg_nil)) ?_)
     refine ds_pure (fun _ => .p (eL eTBlock b_0.fBlocks)) rfl rfl rfl (all2 rfl (fun _ => rfl)) (lt1 rfl) (stg_no rfl (stg_yes [(80, _)] ⟨.inr ⟨7, _, rfl, rfl, rfl⟩, trivial⟩ (fun sl hsl K hK => one_op rfl (ok_loadP1 rfl rfl rfl rfl rfl (hsl _ _ rfl) rfl rfl hK)) stg_nil)) (ds_pure (fun _ => .p (eI i53)) rfl rfl rfl (all2 rfl (fun _ => rfl)) (lt1 rfl) (stg_no rfl (stg_yes [(9, _)] ⟨.inl rfl, trivial⟩ (fun sl hsl K hK => one_op rfl (ok_move rfl rfl rfl (hsl _ _ rfl) hK)) stg_nil)) ?_)
     refine ds_pure (fun _ => .rptr (TBlock.cs (lat b_0.fBlocks i53))) rfl rfl rfl (all2 rfl (fun _ => rfl)) (lt1 rfl) (stg_no rfl (stg_yes [(81, _), (82, _)] ⟨.inr ⟨8, _, rfl, rfl, rfl⟩, .inr ⟨9, _, rfl, rfl, rfl⟩, trivial⟩ (fun sl hsl K hK => one_op rfl (op_at (f := eTBlock) (l := b_0.fBlocks) TBlock.cs rfl rfl rfl rfl rfl rfl (hsl _ _ rfl) rfl (hsl _ _ rfl) hk58 TBlock.cells_eq (fun _ => rfl) hK)) stg_nil)) (ds_pure (fun _ => .rptr (List.drop 1 (TBlock.cs (lat b_0.fBlocks i53)))) rfl rfl rfl (all2 rfl (fun _ => rfl)) (lt1 rfl) (stg_no rfl (stg_yes [(83, _)] ⟨.inr ⟨10, _, rfl, rfl, rfl⟩, trivial⟩ (fun sl hsl K hK => one_op rfl (ok_fieldAddrR rfl rfl rfl rfl rfl rfl rfl rfl (hsl _ _ rfl) hK)) stg_nil)) ?_)
     refine ds_pure (fun _ => .p (eL eS ((lat b_0.fBlocks i53).fLabels))) rfl rfl rfl (all2 rfl (fun _ => rfl)) (lt1 rfl) (stg_no rfl (stg_yes [(84, _)] ⟨.inr ⟨11, _, rfl, rfl, rfl⟩, trivial⟩ (fun sl hsl K hK => one_op rfl (ok_loadR1 rfl rfl rfl rfl rfl (hsl _ _ rfl) rfl hK)) stg_nil)) (ds_pure (fun _ => .p (eI (((lat b_0.fBlocks i53).fLabels).length : Int))) rfl rfl rfl (all2 rfl (fun _ => rfl)) (lt1 rfl) (stg_no rfl (stg_yes [(85, _)] ⟨.inr ⟨12, _, rfl, rfl, rfl⟩, trivial⟩ (fun sl hsl K hK => one_op rfl (op_lenL (f := eS) (l := (lat b_0.fBlocks i53).fLabels) rfl rfl rfl rfl rfl (hsl _ _ rfl) rfl hK)) stg_nil)) ?_)
     refine ds_pure (fun _ => .p (eI (n52 - (((lat b_0.fBlocks i53).fLabels).length : Int)))) rfl rfl rfl (all2 rfl (fun _ => rfl)) (lt1 rfl) (stg_no rfl (stg_yes [(79, _), (86, _)] ⟨.inr ⟨6, _, rfl, rfl, rfl⟩, .inr ⟨13, _, rfl, rfl, rfl⟩, trivial⟩ (fun sl hsl K hK => one_op rfl (ok_ar rfl rfl rfl (hsl _ _ rfl) (hsl _ _ rfl) rfl hk59 hK)) stg_nil)) (ds_pure (fun _ => .p (eI levels_2)) rfl rfl rfl (all2 rfl (fun _ => rfl)) (lt1 rfl) (stg_no rfl (stg_yes [(2, _)] ⟨.inl rfl, trivial⟩ (fun sl hsl K hK => one_op rfl (ok_move rfl rfl rfl (hsl _ _ rfl) hK)) stg_nil)) ?_)
     refine ds_pure (fun _ => .p (eI (levels_2 - 1))) rfl rfl rfl (all2 rfl (fun _ => rfl)) (lt1 rfl) (stg_no rfl (stg_yes [(88, _)] ⟨.inr ⟨15, _, rfl, rfl, rfl⟩, trivial⟩ (fun sl hsl K hK => one_op rfl (ok_ar rfl rfl rfl (hsl _ _ rfl) rfl rfl hk60 hK)) stg_nil)) (ds_pure (fun _ => .p (eI r61)) rfl rfl rfl (all2 rfl (fun _ => rfl)) (lt1 rfl) (stg_no rfl (stg_yes [(78, _), (87, _), (89, _)] ⟨.inr ⟨5, _, rfl, rfl, rfl⟩, .inr ⟨14, _, rfl, rfl, rfl⟩, .inr ⟨16, _, rfl, rfl, rfl⟩, trivial⟩ (fun sl hsl K hK => one_op rfl (ok_callP (ih_ref16_left_ok ((lat b_0.fBlocks i53).fBody) (n52 - (((lat b_0.fBlocks i53).fLabels).length : Int)) (levels_2 - 1) _ e62) rfl rfl rfl (args_cons (hsl _ _ rfl) (args_cons (hsl _ _ rfl) (args_cons (hsl _ _ rfl) args_nil))) ⟨sr, sr, sr, trivial⟩ Tryz.call73 rfl hK)) stg_nil)) ?_)
     refine ds_imp (fun _ => .p (eI r61)) [(90, _)] rfl ⟨.inr ⟨17, _, rfl, rfl, rfl⟩, trivial⟩ rfl rfl (fun _ => rfl) (lt1 (fun h => absurd h (by decide))) (fun sl hsl K hK => one_op rfl (ok_assign rfl rfl rfl (hsl _ _ rfl) hK)) (ds_nil ?_)
     refine nx 3 rfl (oA h1 rfl rfl fun hk63 h1 => ?_)
     exact nx 2 rfl (eX (r61, i53 + 1) h1 (gE rfl rfl))
    exact nx 2 rfl (eXi _ (oi h1).symm (gE rfl rfl))
   refine nx 4 rfl (oLl (f := eTBlock) rfl rfl ?_)
   refine nx 2 rfl (fD [66, 67] h2 rfl (fun c54 h2 => ?_) fun c54 h2 => ?_)
   ·exact nx 4 rfl (eX _ (oi h2).symm (gE rfl rfl))
   exact nx 4 rfl (eX _ (oi h2).symm (gE rfl rfl))
  refine lG (fun (q81 : Int × Int) => ⟨[(2, .p (eI levels_2)), (3, .ptr 3 0), (7, .p (eI q81.1)), (8, .p (eI q81.2))], [(3, (TBody.cs b_0).map .p)]⟩) (fun m (q81 : Int × Int) => ref16_left_l1 n b_0 m q81.1 q81.2) (fun _ => rfl) ((nodes_1 - (b_0.fAttrs.length : Int)) - (b_0.fBlocks.length : Int), 0) h1 (gE rfl rfl) ?_
  rintro m ⟨n22, i23⟩ h1
  replace h1 : ref16_left_l1 n b_0 (m + 1) n22 i23 = some o74 := h1
  rw [ref16_left_l1] at h1
  refine nx 2 rfl (bd h1 fun o82 h2 h1 => ?_)
  refine kN o82 (fun v83 => ⟨[(2, .p (eI levels_2)), (3, .ptr 3 0), (7, .p (eI n22)), (8, .p (eI i23)), (40, .p (eB v83))], [(3, (TBody.cs b_0).map .p)]⟩) ?_ ?_
  ·refine nx 1 rfl (fB [40] h1 rfl (fun c26 h1 => ?_) fun c26 h1 => ?_)
   ·refine nx 10 rfl (oE h1 TAttribute.cells_eq rfl rfl (fun _ => rfl) fun hk27 h1 => ?_)
    refine nx 3 rfl (oA h1 rfl rfl fun hk28 h1 => ?_)
    refine bd h1 fun r29 e30 h1 => oK (ref14_Small_ok _ ((lat b_0.fAttrs i23).fExpr) (n22 + 1) _ e30) rfl ⟨sr, sr, trivial⟩ Tryz.call25 rfl (nx 2 rfl ?_)
    refine fB [52] h1 rfl (fun c31 h1 => ?_) fun c31 h1 => ?_
    ·exact nx 6 rfl (mQ (hR0 _ (oi h1).symm) rfl (sr))
    refine nx 7 rfl (oE h1 TAttribute.cells_eq rfl rfl (fun _ => rfl) fun hk32 h1 => ?_)
    refine nx 2 rfl (bd h1 fun r33 e34 h1 => ?_)
    refine oK (ref14_Nodes_ok _ ((lat b_0.fAttrs i23).fExpr) _ e34) rfl ⟨sr, trivial⟩ Tryz.call113 rfl (oA h1 rfl rfl fun hk35 h1 => ?_)
    refine nx 4 rfl (oA h1 rfl rfl fun hk36 h1 => ?_)
    exact nx 2 rfl (eX (n22 - r33, i23 + 1) h1 (gE rfl rfl))
   exact nx 2 rfl (eXi _ (oi h1).symm (gE rfl rfl))
  refine nx 4 rfl (oLl (f := eTAttribute) rfl rfl ?_)
  refine nx 2 rfl (fD [36, 37] h2 rfl (fun c24 h2 => ?_) fun c24 h2 => ?_)
  ·exact nx 4 rfl (eX _ (oi h2).symm (gE rfl rfl))
  exact nx 4 rfl (eX _ (oi h2).symm (gE rfl rfl))
 refine nx 4 rfl (fD [11, 12] h1 rfl (fun c1 h1 => ?_) fun c1 h1 => ?_)
 ·exact nx 11 rfl (eX _ (oi h1).symm (gE rfl rfl))
 refine nx 3 rfl (oLl (f := eTAttribute) rfl rfl ?_)
 refine nx 2 rfl (oLl (f := eTBlock) rfl rfl ?_)
 exact oA h1 rfl rfl fun hk2 h1 => nx 3 rfl (eX _ (oi h1).symm (gE rfl rfl))
def ref16_Small (n : Nat) (b_0 : TBody) (nodes_1 : Int) : Option Bool :=
 (ref16_left n b_0 nodes_1 40).bind fun r1 =>
 some (decide (0 ≤ r1))
set_option maxHeartbeats 4000000 in
theorem ref16_Small_ok (n : Nat) (b_0 : TBody) (nodes_1 : Int) (r : Bool) (h0 : ref16_Small n b_0 nodes_1 = some r) : PCalls Tryz.prog 27 [.agg (TBody.cs b_0), eI nodes_1] (· = .p (eB r)) := by
 unfold ref16_Small at h0
 refine pbodyA good Tryz.func27 rfl rfl rfl fun w0 => mP (fun v : Bool => .p (eB v)) ?_
 refine nx 9 rfl (bd h0 fun r1 e2 h0 => ?_)
 refine oK (ref16_left_ok _ b_0 nodes_1 40 _ e2) rfl ⟨sr, sr, sr, trivial⟩ Tryz.call73 rfl (nx 4 rfl ?_)
 exact mQ (oi h0) rfl (sr)
def ref15_template_l1 (s_0 : Bytes) : Nat → Int → Option (Unit ⊕ Bool)
 | 0, _ => none
 | m + 1, i11 =>
 ck (inR (i11 + 1)) <|
 if i11 + 1 < (s_0.length : Int) then
  (
    ck ((0 : Int) ≤ i11 ∧ i11 < (s_0.length : Int)) <|
    if byt s_0 i11 = 36 then
     ck (inR (i11 + 1)) <|
     ck ((0 : Int) ≤ i11 + 1 ∧ i11 + 1 < (s_0.length : Int)) <|
     some (decide (byt s_0 (i11 + 1) = 123))
    else
     some false
   : Option Bool).bind fun t18 =>
  if t18 = true then
   some (.inr true)
  else
   ck (inR (i11 + 1)) <|
   ref15_template_l1 s_0 m (i11 + 1)
 else
  some (.inl ())
def ref15_template (n : Nat) (s_0 : Bytes) : Option Bool :=
 jn (ref15_template_l1 s_0 n 0) fun q22 =>
 some false
set_option maxHeartbeats 4000000 in
theorem ref15_template_ok (n : Nat) (s_0 : Bytes) (r : Bool) (h0 : ref15_template n s_0 = some r) : PCalls Tryz.prog 116 [eS s_0] (· = .p (eB r)) := by
 unfold ref15_template at h0
 refine pbodyA good Tryz.func116 rfl rfl rfl fun w0 => mP (fun v : Bool => .p (eB v)) ?_
 refine nx 10 rfl ?_
 obtain ⟨o24, h1, hL0, hR0⟩ := jn_cut h0
 refine kEx 0 (fun v25 : Unit => o24 = .inl v25) (fun v25 => ⟨[], []⟩) (fun v25 hv => ?_) ?_
 ·have h0 := hL0 _ hv
  exact nx 6 rfl (mQ (oi h0) rfl (sr))
 refine lG (fun (q26 : Int) => ⟨[(0, .p (eS s_0)), (3, .p (eI q26))], []⟩) (fun m (q26 : Int) => ref15_template_l1 s_0 m q26) (fun _ => rfl) 0 h1 (gE rfl rfl) ?_
 rintro m i11 h1
 replace h1 : ref15_template_l1 s_0 (m + 1) i11 = some o24 := h1
 rw [ref15_template_l1] at h1
 refine nx 4 rfl (oA h1 rfl rfl fun hk12 h1 => ?_)
 refine nx 1 rfl (oLs rfl ?_)
 refine nx 2 rfl (fD [8] h1 rfl (fun c13 h1 => ?_) fun c13 h1 => ?_)
 ·refine nx 5 rfl (bd h1 fun o27 h2 h1 => ?_)
  refine kN o27 (fun v28 => ⟨[(0, .p (eS s_0)), (3, .p (eI i11)), (21, .p (eB v28))], []⟩) ?_ ?_
  ·refine nx 1 rfl (fB [21] h1 rfl (fun c19 h1 => ?_) fun c19 h1 => ?_)
   ·exact nx 6 rfl (mQ (hR0 _ (oi h1).symm) rfl (sr))
   refine nx 4 rfl (oA h1 rfl rfl fun hk20 h1 => ?_)
   exact nx 2 rfl (eX (i11 + 1) h1 (gE rfl rfl))
  refine nx 3 rfl (oI h2 rfl fun hk14 h2 => ?_)
  refine nx 2 rfl (fD [14, 15] h2 rfl (fun c15 h2 => ?_) fun c15 h2 => ?_)
  ·refine nx 2 rfl (oA h2 rfl rfl fun hk16 h2 => ?_)
   exact oI h2 rfl fun hk17 h2 => nx 3 rfl (eX _ (oi h2).symm (gE rfl rfl))
  exact nx 7 rfl (eX _ (oi h2).symm (gE rfl rfl))
 exact nx 2 rfl (eXi _ (oi h1).symm (gE rfl rfl))
def ref15_check_l2 (b_0 : TBody) (i22 : Int) : Nat → Int → Option (Unit ⊕ (Unit ⊕ Int))
 | 0, _ => none
 | m + 1, k33 =>
 if k33 < i22 then
  ck ((0 : Int) ≤ k33 ∧ k33 < (b_0.fAttrs.length : Int)) <|
  if (lat b_0.fAttrs k33).fName = (lat b_0.fAttrs i22).fName then
   some (.inr (.inr 8))
  else
   ck (inR (k33 + 1)) <|
   ref15_check_l2 b_0 i22 m (k33 + 1)
 else
  some (.inl ())
def ref15_check_l3 (n : Nat) (b_0 : TBody) : Nat → Int → Option (Unit ⊕ Int)
 | 0, _ => none
 | m + 1, i22 =>
 if i22 < (b_0.fAttrs.length : Int) then
  ck ((0 : Int) ≤ i22 ∧ i22 < (b_0.fAttrs.length : Int)) <|
  (ref06_Identifier n ((lat b_0.fAttrs i22).fName)).bind fun r25 =>
  if (!r25) = true then
   some (.inr 7)
  else
   jn (ref15_check_l2 b_0 i22 n 0) fun q120 =>
   (ref14_Check n ((lat b_0.fAttrs i22).fExpr)).bind fun r39 =>
   if r39 = 0 then
    ck (inR (i22 + 1)) <|
    ref15_check_l3 n b_0 m (i22 + 1)
   else
    some (.inr r39)
 else
  some (.inl ())
def ref15_check_l5 (n : Nat) (b_0 : TBody) (i81 : Int) : Nat → Int → Option (Unit ⊕ (Unit ⊕ Int))
 | 0, _ => none
 | m + 1, k99 =>
 if k99 < (((lat b_0.fBlocks i81).fLabels).length : Int) then
  (
    ck ((0 : Int) ≤ k99 ∧ k99 < (((lat b_0.fBlocks i81).fLabels).length : Int)) <|
    (ref02_Valid n (lat ((lat b_0.fBlocks i81).fLabels) k99)).bind fun r102 =>
    if (!r102) = true then
     some true
    else
     ck ((0 : Int) ≤ k99 ∧ k99 < (((lat b_0.fBlocks i81).fLabels).length : Int)) <|
     (ref15_template n (lat ((lat b_0.fBlocks i81).fLabels) k99)).bind fun r106 =>
     some r106
   : Option Bool).bind fun t108 =>
  if t108 = true then
   some (.inr (.inr 1))
  else
   ck (inR (k99 + 1)) <|
   ref15_check_l5 n b_0 i81 m (k99 + 1)
 else
  some (.inl ())
def ref15_check_l6 (n : Nat) (r_ref15_check : TBody → Int → Option Int) (b_0 : TBody) (depth_1 : Int) : Nat → Int → Option (Unit ⊕ Int)
 | 0, _ => none
 | m + 1, i81 =>
 if i81 < (b_0.fBlocks.length : Int) then
  ck ((0 : Int) ≤ i81 ∧ i81 < (b_0.fBlocks.length : Int)) <|
  (ref06_Identifier n ((lat b_0.fBlocks i81).fType)).bind fun r84 =>
  if (!r84) = true then
   some (.inr 7)
  else
   jn (ref15_check_l5 n b_0 i81 n 0) fun q122 =>
   if 32 ≤ depth_1 then
    some (.inr 4)
   else
    ck (inR (depth_1 + 1)) <|
    (r_ref15_check ((lat b_0.fBlocks i81).fBody) (depth_1 + 1)).bind fun r114 =>
    if r114 = 0 then
     ck (inR (i81 + 1)) <|
     ref15_check_l6 n r_ref15_check b_0 depth_1 m (i81 + 1)
    else
     some (.inr r114)
 else
  some (.inl ())
def ref15_check : Nat → TBody → Int → Option Int
 | 0, _, _ => none
 | n + 1, b_0, depth_1 =>
 jn (ref15_check_l3 n b_0 n 0) fun q119 =>
 jn (ref15_check_l6 n (ref15_check n) b_0 depth_1 n 0) fun q121 =>
 some 0
set_option maxHeartbeats 4000000 in
theorem ref15_check_ok (n : Nat) : ∀ (b_0 : TBody) (depth_1 : Int) (r : Int), ref15_check n b_0 depth_1 = some r → PCalls Tryz.prog 74 [.agg (TBody.cs b_0), eI depth_1] (· = .p (eI r)) := by
 induction n with
 | zero => intro b_0 depth_1 r h0; cases h0
 | succ n ih =>
 have ih_ref15_check_ok := ih
 intro b_0 depth_1 r h0
 rw [ref15_check] at h0
 refine pbodyA good Tryz.func74 rfl rfl rfl fun w0 => mP (fun v : Int => .p (eI v)) ?_
 refine nx 11 rfl ?_
 obtain ⟨o124, h1, hL0, hR0⟩ := jn_cut h0
 refine kEx 0 (fun v125 : Unit => o124 = .inl v125) (fun v125 => ⟨[(1, .p (eI depth_1)), (2, .ptr 2 0)], [(2, (TBody.cs b_0).map .p)]⟩) (fun v125 hv => ?_) ?_
 ·have h0 := hL0 _ hv
  refine nx 7 rfl ?_
  obtain ⟨o126, h1, hL0, hR0⟩ := jn_cut h0
  refine kEx 4 (fun v127 : Unit => o126 = .inl v127) (fun v127 => ⟨[], []⟩) (fun v127 hv => ?_) ?_
  ·have h0 := hL0 _ hv
   exact nx 6 rfl (mQ (oi h0) rfl (sr))
  refine lG (fun (q128 : Int) => ⟨[(1, .p (eI depth_1)), (2, .ptr 2 0), (9, .p (eI q128))], [(2, (TBody.cs b_0).map .p)]⟩) (fun m (q128 : Int) => ref15_check_l6 n (ref15_check n) b_0 depth_1 m q128) (fun _ => rfl) 0 h1 (gE rfl rfl) ?_
  rintro m i81 h1
  replace h1 : ref15_check_l6 n (ref15_check n) b_0 depth_1 (m + 1) i81 = some o126 := h1
  rw [ref15_check_l6] at h1
  refine nx 6 rfl (oLl (f := eTBlock) rfl rfl ?_)
  refine nx 2 rfl (fD [53] h1 rfl (fun c82 h1 => ?_) fun c82 h1 => ?_)
  ·refine nx 9 rfl (oE h1 TBlock.cells_eq rfl rfl (fun _ => rfl) fun hk83 h1 => ?_)
   refine nx 9 rfl (bd h1 fun r84 e85 h1 => ?_)
   refine oK (ref06_Identifier_ok _ ((lat b_0.fBlocks i81).fType) _ e85) rfl ⟨sr, trivial⟩ Tryz.call114 rfl (nx 2 rfl ?_)
   refine fB [64] h1 rfl (fun c86 h1 => ?_) fun c86 h1 => ?_
   ·exact nx 6 rfl (mQ (hR0 _ (oi h1).symm) rfl (sr))
   refine nx 8 rfl ?_
   obtain ⟨o129, h2, hL1, hR1⟩ := jn_cut h1
   refine kEx 6 (fun v130 : Unit => o129 = .inl v130) (fun v130 => ⟨[(1, .p (eI depth_1)), (2, .ptr 2 0), (9, .p (eI i81)), (10, .ptr 10 0)], [(2, (TBody.cs b_0).map .p), (10, (TBlock.cs (lat b_0.fBlocks i81)).map .p)]⟩) (fun v130 hv => ?_) ?_
   ·have h1 := hL1 _ hv
    refine nx 7 rfl (fD [88] h1 rfl (fun c112 h1 => ?_) fun c112 h1 => ?_)
    ·exact nx 6 rfl (mQ (hR0 _ (oi h1).symm) rfl (sr))
    refine nx 7 rfl (oA h1 rfl rfl fun hk113 h1 => ?_)
    refine bd h1 fun r114 e115 h1 => oK (ih_ref15_check_ok ((lat b_0.fBlocks i81).fBody) (depth_1 + 1) _ e115) rfl ⟨sr, sr, trivial⟩ Tryz.call74 rfl (nx 7 rfl ?_)
    refine fN [95] h1 rfl (fun c116 h1 => ?_) fun c116 h1 => ?_
    ·refine nx 4 rfl (oA h1 rfl rfl fun hk117 h1 => ?_)
     exact nx 2 rfl (eX (i81 + 1) h1 (gE rfl rfl))
    exact nx 7 rfl (mQ (hR0 _ (oi h1).symm) rfl (sr))
   refine lG (fun (q131 : Int) => ⟨[(1, .p (eI depth_1)), (2, .ptr 2 0), (9, .p (eI i81)), (10, .ptr 10 0), (11, .p (eI q131))], [(2, (TBody.cs b_0).map .p), (10, (TBlock.cs (lat b_0.fBlocks i81)).map .p)]⟩) (fun m (q131 : Int) => ref15_check_l5 n b_0 i81 m q131) (fun _ => rfl) 0 h2 (gE rfl rfl) ?_
   rintro m k99 h2
   replace h2 : ref15_check_l5 n b_0 i81 (m + 1) k99 = some o129 := h2
   rw [ref15_check_l5] at h2
   refine nx 6 rfl (oLl (f := eS) rfl rfl ?_)
   refine nx 2 rfl (fD [69] h2 rfl (fun c100 h2 => ?_) fun c100 h2 => ?_)
   ·refine nx 5 rfl (bd h2 fun o132 h3 h2 => ?_)
    refine kN o132 (fun v133 => ⟨[(1, .p (eI depth_1)), (2, .ptr 2 0), (9, .p (eI i81)), (10, .ptr 10 0), (11, .p (eI k99)), (86, .p (eB v133))], [(2, (TBody.cs b_0).map .p), (10, (TBlock.cs (lat b_0.fBlocks i81)).map .p)]⟩) ?_ ?_
    ·refine nx 1 rfl (fB [86] h2 rfl (fun c109 h2 => ?_) fun c109 h2 => ?_)
     ·exact nx 6 rfl (mQ (hR0 _ (hR1 _ (oi h2).symm).symm) rfl (sr))
     refine nx 4 rfl (oA h2 rfl rfl fun hk110 h2 => ?_)
     exact nx 2 rfl (eX (k99 + 1) h2 (gE rfl rfl))
    refine nx 4 rfl (oE h3 (fun _ => rfl) rfl rfl (fun _ => rfl) fun hk101 h3 => ?_)
    refine nx 1 rfl (bd h3 fun r102 e103 h3 => ?_)
    refine oK (ref02_Valid_ok _ (lat ((lat b_0.fBlocks i81).fLabels) k99) _ e103) rfl ⟨sr, trivial⟩ Tryz.call115 rfl (nx 2 rfl ?_)
    refine fB [78, 79] h3 rfl (fun c104 h3 => ?_) fun c104 h3 => ?_
    ·exact nx 8 rfl (eX _ (oi h3).symm (gE rfl rfl))
    refine nx 3 rfl (oE h3 (fun _ => rfl) rfl rfl (fun _ => rfl) fun hk105 h3 => ?_)
    refine nx 1 rfl (bd h3 fun r106 e107 h3 => ?_)
    refine oK (ref15_template_ok _ (lat ((lat b_0.fBlocks i81).fLabels) k99) _ e107) rfl ⟨sr, trivial⟩ Tryz.call116 rfl (nx 2 rfl ?_)
    exact eX _ (oi h3).symm (gE rfl rfl)
   exact nx 2 rfl (eXi _ (oi h2).symm (gE rfl rfl))
  exact nx 2 rfl (eXi _ (oi h1).symm (gE rfl rfl))
 refine lG (fun (q134 : Int) => ⟨[(1, .p (eI depth_1)), (2, .ptr 2 0), (5, .p (eI q134))], [(2, (TBody.cs b_0).map .p)]⟩) (fun m (q134 : Int) => ref15_check_l3 n b_0 m q134) (fun _ => rfl) 0 h1 (gE rfl rfl) ?_
 rintro m i22 h1
 replace h1 : ref15_check_l3 n b_0 (m + 1) i22 = some o124 := h1
 rw [ref15_check_l3] at h1
 refine nx 6 rfl (oLl (f := eTAttribute) rfl rfl ?_)
 refine nx 2 rfl (fD [17] h1 rfl (fun c23 h1 => ?_) fun c23 h1 => ?_)
 ·refine nx 9 rfl (oE h1 TAttribute.cells_eq rfl rfl (fun _ => rfl) fun hk24 h1 => ?_)
  refine nx 9 rfl (bd h1 fun r25 e26 h1 => ?_)
  refine oK (ref06_Identifier_ok _ ((lat b_0.fAttrs i22).fName) _ e26) rfl ⟨sr, trivial⟩ Tryz.call114 rfl (nx 2 rfl ?_)
  refine fB [28] h1 rfl (fun c27 h1 => ?_) fun c27 h1 => ?_
  ·exact nx 6 rfl (mQ (hR0 _ (oi h1).symm) rfl (sr))
  refine nx 8 rfl ?_
  obtain ⟨o135, h2, hL1, hR1⟩ := jn_cut h1
  refine kEx 2 (fun v136 : Unit => o135 = .inl v136) (fun v136 => ⟨[(1, .p (eI depth_1)), (2, .ptr 2 0), (5, .p (eI i22)), (6, .ptr 6 0)], [(2, (TBody.cs b_0).map .p), (6, (TAttribute.cs (lat b_0.fAttrs i22)).map .p)]⟩) (fun v136 hv => ?_) ?_
  ·have h1 := hL1 _ hv
   refine nx 5 rfl (bd h1 fun r39 e40 h1 => ?_)
   refine oK (ref14_Check_ok _ ((lat b_0.fAttrs i22).fExpr) _ e40) rfl ⟨sr, trivial⟩ Tryz.call26 rfl (nx 7 rfl ?_)
   refine fN [47] h1 rfl (fun c41 h1 => ?_) fun c41 h1 => ?_
   ·refine nx 4 rfl (oA h1 rfl rfl fun hk42 h1 => ?_)
    exact nx 2 rfl (eX (i22 + 1) h1 (gE rfl rfl))
   exact nx 7 rfl (mQ (hR0 _ (oi h1).symm) rfl (sr))
  refine lG (fun (q137 : Int) => ⟨[(1, .p (eI depth_1)), (2, .ptr 2 0), (5, .p (eI i22)), (6, .ptr 6 0), (7, .p (eI q137))], [(2, (TBody.cs b_0).map .p), (6, (TAttribute.cs (lat b_0.fAttrs i22)).map .p)]⟩) (fun m (q137 : Int) => ref15_check_l2 b_0 i22 m q137) (fun _ => rfl) 0 h2 (gE rfl rfl) ?_
  rintro m k33 h2
  replace h2 : ref15_check_l2 b_0 i22 (m + 1) k33 = some o135 := h2
  rw [ref15_check_l2] at h2
  refine nx 7 rfl (fD [31] h2 rfl (fun c34 h2 => ?_) fun c34 h2 => ?_)
  ·refine nx 5 rfl (cc' h2 fun hk35 h2 => ?_)
   refine mD [(1, .p (eI depth_1)), (2, .ptr 2 0), (5, .p (eI i22)), (6, .ptr 6 0), (7, .p (eI k33))] rfl ⟨rfl, rfl, rfl, rfl, rfl, trivial⟩ rfl (dR 3 rfl ?_)
   refine dq (.rptr (TAttribute.cs (lat b_0.fAttrs k33))) [35,36] rfl (fun _ e _ q => one_op rfl (op_at (f := eTAttribute) (l := b_0.fAttrs) TAttribute.cs rfl rfl rfl rfl rfl rfl (e _ _ rfl) rfl (e _ _ rfl) hk35 TAttribute.cells_eq (fun _ => rfl) q)) rfl (dR 4 rfl ?_)
   refine dq (.p (eB (decide ((lat b_0.fAttrs k33).fName = (lat b_0.fAttrs i22).fName)))) [39,41] rfl (fun _ e _ q => one_op rfl (ok_cmpS rfl rfl rfl (e _ _ rfl) (e _ _ rfl) rfl q)) rfl (dE rfl ?_)
   refine nx 1 rfl (fD [42] h2 rfl (fun c36 h2 => ?_) fun c36 h2 => ?_)
   ·exact nx 6 rfl (mQ (hR0 _ (hR1 _ (oi h2).symm).symm) rfl (sr))
   refine nx 4 rfl (oA h2 rfl rfl fun hk37 h2 => ?_)
   exact nx 2 rfl (eX (k33 + 1) h2 (gE rfl rfl))
  exact nx 2 rfl (eXi _ (oi h2).symm (gE rfl rfl))
 exact nx 2 rfl (eXi _ (oi h1).symm (gE rfl rfl))
def ref15_Check (n : Nat) (b_0 : TBody) : Option Int :=
 (ref15_check n b_0 0).bind fun r1 =>
 some r1
set_option maxHeartbeats 4000000 in
theorem ref15_Check_ok (n : Nat) (b_0 : TBody) (r : Int) (h0 : ref15_Check n b_0 = some r) : PCalls Tryz.prog 28 [.agg (TBody.cs b_0)] (· = .p (eI r)) := by
 unfold ref15_Check at h0
 refine pbodyA good Tryz.func28 rfl rfl rfl fun w0 => mP (fun v : Int => .p (eI v)) ?_
 refine nx 8 rfl (bd h0 fun r1 e2 h0 => ?_)
 refine oK (ref15_check_ok _ b_0 0 _ e2) rfl ⟨sr, sr, trivial⟩ Tryz.call74 rfl (nx 3 rfl ?_)
 exact mQ (oi h0) rfl (sr)
def law16_whole_l1 (n : Nat) (l_0 : List TBody) : Nat → Int → Option (Unit ⊕ Bool)
 | 0, _ => none
 | m + 1, i13 =>
 if i13 < (l_0.length : Int) then
  (
    ck ((0 : Int) ≤ i13 ∧ i13 < (l_0.length : Int)) <|
    (ref16_Small n (lat l_0 i13) 300).bind fun r16 =>
    if (!r16) = true then
     some true
    else
     ck ((0 : Int) ≤ i13 ∧ i13 < (l_0.length : Int)) <|
     (ref15_Check n (lat l_0 i13)).bind fun r20 =>
     some (!decide (r20 = 0))
   : Option Bool).bind fun t22 =>
  if t22 = true then
   some (.inr false)
  else
   ck (inR (i13 + 1)) <|
   law16_whole_l1 n l_0 m (i13 + 1)
 else
  some (.inl ())
def law16_whole (n : Nat) (l_0 : List TBody) : Option Bool :=
 jn (law16_whole_l1 n l_0 n 0) fun q26 =>
 some true
set_option maxHeartbeats 4000000 in
theorem law16_whole_ok (n : Nat) (l_0 : List TBody) (r : Bool) (h0 : law16_whole n l_0 = some r) : PCalls Tryz.prog 8 [eL eTBody l_0] (· = .p (eB r)) := by
 unfold law16_whole at h0
 refine pbodyA good Tryz.func8 rfl rfl rfl fun w0 => mP (fun v : Bool => .p (eB v)) ?_
 refine nx 10 rfl ?_
 obtain ⟨o28, h1, hL0, hR0⟩ := jn_cut h0
 refine kEx 0 (fun v29 : Unit => o28 = .inl v29) (fun v29 => ⟨[], []⟩) (fun v29 hv => ?_) ?_
 ·have h0 := hL0 _ hv
  exact nx 6 rfl (mQ (oi h0) rfl (sr))
 refine lG (fun (q30 : Int) => ⟨[(0, .p (eL eTBody l_0)), (3, .p (eI q30))], []⟩) (fun m (q30 : Int) => law16_whole_l1 n l_0 m q30) (fun _ => rfl) 0 h1 (gE rfl rfl) ?_
 rintro m i13 h1
 replace h1 : law16_whole_l1 n l_0 (m + 1) i13 = some o28 := h1
 rw [law16_whole_l1] at h1
 refine nx 5 rfl (oLl (f := eTBody) rfl rfl ?_)
 refine nx 2 rfl (fD [7] h1 rfl (fun c14 h1 => ?_) fun c14 h1 => ?_)
 ·refine nx 5 rfl (bd h1 fun o31 h2 h1 => ?_)
  refine kN o31 (fun v32 => ⟨[(0, .p (eL eTBody l_0)), (3, .p (eI i13)), (23, .p (eB v32))], []⟩) ?_ ?_
  ·refine nx 1 rfl (fB [23] h1 rfl (fun c23 h1 => ?_) fun c23 h1 => ?_)
   ·exact nx 6 rfl (mQ (hR0 _ (oi h1).symm) rfl (sr))
   refine nx 4 rfl (oA h1 rfl rfl fun hk24 h1 => ?_)
   exact nx 2 rfl (eX (i13 + 1) h1 (gE rfl rfl))
  refine nx 3 rfl (oE h2 TBody.cells_eq rfl rfl (fun _ => rfl) fun hk15 h2 => ?_)
  refine nx 1 rfl (bd h2 fun r16 e17 h2 => ?_)
  refine oK (ref16_Small_ok _ (lat l_0 i13) 300 _ e17) rfl ⟨sr, sr, trivial⟩ Tryz.call27 rfl (nx 2 rfl ?_)
  refine fB [15, 16] h2 rfl (fun c18 h2 => ?_) fun c18 h2 => ?_
  ·exact nx 8 rfl (eX _ (oi h2).symm (gE rfl rfl))
  refine nx 2 rfl (oE h2 TBody.cells_eq rfl rfl (fun _ => rfl) fun hk19 h2 => ?_)
  refine nx 1 rfl (bd h2 fun r20 e21 h2 => ?_)
  refine oK (ref15_Check_ok _ (lat l_0 i13) _ e21) rfl ⟨sr, trivial⟩ Tryz.call28 rfl (nx 3 rfl ?_)
  exact eX _ (oi h2).symm (gE rfl rfl)
 exact nx 2 rfl (eXi _ (oi h1).symm (gE rfl rfl))
def ref07_Equal_l1 (a_0 : TValue) (b_1 : TValue) : Nat → Int → Option (Unit ⊕ Bool)
 | 0, _ => none
 | m + 1, i13 =>
 if i13 < (a_0.fKeys.length : Int) then
  ck ((0 : Int) ≤ i13 ∧ i13 < (a_0.fKeys.length : Int)) <|
  ck ((0 : Int) ≤ i13 ∧ i13 < (b_1.fKeys.length : Int)) <|
  if lat a_0.fKeys i13 = lat b_1.fKeys i13 then
   ck (inR (i13 + 1)) <|
   ref07_Equal_l1 a_0 b_1 m (i13 + 1)
  else
   some (.inr false)
 else
  some (.inl ())
def ref07_Equal_l2 (r_ref07_Equal : TValue → TValue → Option Bool) (a_0 : TValue) (b_1 : TValue) : Nat → Int → Option (Unit ⊕ Bool)
 | 0, _ => none
 | m + 1, i28 =>
 if i28 < (a_0.fItems.length : Int) then
  ck ((0 : Int) ≤ i28 ∧ i28 < (a_0.fItems.length : Int)) <|
  ck ((0 : Int) ≤ i28 ∧ i28 < (b_1.fItems.length : Int)) <|
  (r_ref07_Equal (lat a_0.fItems i28) (lat b_1.fItems i28)).bind fun r32 =>
  if (!r32) = true then
   some (.inr false)
  else
   ck (inR (i28 + 1)) <|
   ref07_Equal_l2 r_ref07_Equal a_0 b_1 m (i28 + 1)
 else
  some (.inl ())
def ref07_Equal : Nat → TValue → TValue → Option Bool
 | 0, _, _ => none
 | n + 1, a_0, b_1 =>
 (
   if a_0.fKind = b_1.fKind then
    if a_0.fNum = b_1.fNum then
     if a_0.fStr = b_1.fStr then
      if (a_0.fItems.length : Int) = (b_1.fItems.length : Int) then
       some (!decide ((a_0.fKeys.length : Int) = (b_1.fKeys.length : Int)))
      else
       some true
     else
      some true
    else
     some true
   else
    some true
  : Option Bool).bind fun t5 =>
 if t5 = true then
  some false
 else
  jn (ref07_Equal_l1 a_0 b_1 n 0) fun q38 =>
  jn (ref07_Equal_l2 (ref07_Equal n) a_0 b_1 n 0) fun q39 =>
  some true
def ref16_same_l1 (a_0 : List Bytes) (b_1 : List Bytes) : Nat → Int → Option (Unit ⊕ Bool)
 | 0, _ => none
 | m + 1, i8 =>
 if i8 < (a_0.length : Int) then
  ck ((0 : Int) ≤ i8 ∧ i8 < (a_0.length : Int)) <|
  ck ((0 : Int) ≤ i8 ∧ i8 < (b_1.length : Int)) <|
  if lat a_0 i8 = lat b_1 i8 then
   ck (inR (i8 + 1)) <|
   ref16_same_l1 a_0 b_1 m (i8 + 1)
  else
   some (.inr false)
 else
  some (.inl ())
def ref16_same (n : Nat) (a_0 : List Bytes) (b_1 : List Bytes) : Option Bool :=
 if (a_0.length : Int) = (b_1.length : Int) then
  jn (ref16_same_l1 a_0 b_1 n 0) fun q15 =>
  some true
 else
  some false
end Go.Ab.R06
