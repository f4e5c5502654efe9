/- Chapter 42. -/
import Derived.Test.YtgdcfenbmcflkaaGreatDoorDat42
import Derived.Test.YtgdcfenbmcflkaaGreatDoorRB
import Derived.Test.YtgdcfenbmcflkaaGreatDoorLb06
import Derived.Test.YtgdcfenbmcflkaaGreatDoorLc
import Derived.Test.YtgdcfenbmcflkaaGreatDoorCl42
import Derived.Test.YtgdcfenbmcflkaaGreatDoorAbGw
import Derived.Test.YtgdcfenbmcflkaaGreatDoorGb
set_option linter.unusedVariables false
set_option linter.unusedSimpArgs false
set_option linter.unnecessarySimpa false
namespace Go.Ab.R06
open Go.Proofs Go.Ab Go.Ab.RB
attribute [local irreducible] awp rwpL OpOk PCalls OCalls AV.sub M Ghost

def number_canonical_l1 (s7 : Bytes) : Nat → Int → Option (Unit ⊕ Bool)
 | 0, _ => none
 | m + 1, t16 =>
 if t16 < (s7.length : Int) then
  (
    ck ((0 : Int) ≤ t16 ∧ t16 < (s7.length : Int)) <|
    if byt s7 t16 < 48 then
     some true
    else
     ck ((0 : Int) ≤ t16 ∧ t16 < (s7.length : Int)) <|
     some (decide (57 < byt s7 t16))
   : Option Bool).bind fun t21 =>
  if t21 = true then
   some (.inr false)
  else
   ck (inR (t16 + 1)) <|
   number_canonical_l1 s7 m (t16 + 1)
 else
  some (.inl ())

def number_canonical (n : Nat) (s_0 : Bytes) : Option Bool :=
 jn (
   (
     if 0 < (s_0.length : Int) then
      ck ((0 : Int) ≤ 0 ∧ 0 < (s_0.length : Int)) <|
      some (decide (byt s_0 0 = 45))
     else
      some false
    : Option Bool).bind fun t3 =>
   if t3 = true then
    ck ((0 : Int) ≤ 1 ∧ 1 ≤ (s_0.length : Int) ∧ (s_0.length : Int) ≤ (s_0.length : Int)) <|
    if sub s_0 1 (s_0.length : Int) = ([48] : Bytes) then
     some (.inr false)
    else
     some (.inl (sub s_0 1 (s_0.length : Int)))
   else
    some (.inl s_0)
  : Option (Bytes ⊕ Bool)) fun s7 =>
 jn (number_canonical_l1 s7 n 0) fun q31 =>
 (
   if s7 = ([] : Bytes) then
    some false
   else
    ck ((0 : Int) ≤ 0 ∧ 0 < (s7.length : Int)) <|
    if byt s7 0 = 48 then
     some (decide ((s7.length : Int) = 1))
    else
     some true
  : Option Bool).bind fun t28 =>
 some t28

set_option maxHeartbeats 4000000 in
theorem number_canonical_ok (n : Nat) (s_0 : Bytes) (r : Bool) (h0 : number_canonical n s_0 = some r) : PCalls Tryz.prog 123 [eS s_0] (· = .p (eB r)) := by
 unfold number_canonical at h0
 refine pbodyA good Tryz.func123 rfl rfl rfl fun w0 => mP (fun v : Bool => .p (eB v)) ?_
 refine nx 5 rfl ?_
 obtain ⟨o34, h1, hL0, hR0⟩ := jn_cut h0
 refine kX (fun v35 : Bytes => o34 = .inl v35) (fun v35 => ⟨[(0, .p (eS v35))], []⟩) (fun v35 hv => ?_) ?_
 ·have h0 := hL0 _ hv
  refine nx 5 rfl (oLs rfl ?_)
  refine nx 3 rfl ?_
  obtain ⟨o36, h1, hL0, hR0⟩ := jn_cut h0
  refine kEx 0 (fun v37 : Unit => o36 = .inl v37) (fun v37 => ⟨[(0, .p (eS v35))], []⟩) (fun v37 hv => ?_) ?_
  ·have h0 := hL0 _ hv
   refine nx 2 rfl (bd h0 fun o38 h1 h0 => ?_)
   refine kN o38 (fun v39 => ⟨[(2, .p (eB v39))], []⟩) ?_ ?_
   ·exact nx 2 rfl (mQ (oi h0) rfl (sr))
   refine nx 2 rfl (oS rfl rfl ?_)
   refine nx 1 rfl (fN [33, 34] h1 rfl (fun c25 h1 => ?_) fun c25 h1 => ?_)
   ·exact nx 11 rfl (eX _ (oi h1).symm (gE rfl rfl))
   refine nx 1 rfl (oI h1 rfl fun hk26 h1 => ?_)
   refine nx 2 rfl (fN [37, 38] h1 rfl (fun c27 h1 => ?_) fun c27 h1 => ?_)
   ·refine nx 1 rfl (oLs rfl ?_)
    exact nx 5 rfl (eX _ (oi h1).symm (gE rfl rfl))
   exact nx 7 rfl (eX _ (oi h1).symm (gE rfl rfl))
  refine lG (fun (q40 : Int) => ⟨[(0, .p (eS v35)), (17, .p (eI (v35.length : Int))), (18, .p (eI q40))], []⟩) (fun m (q40 : Int) => number_canonical_l1 v35 m q40) (fun _ => rfl) 0 h1 (gE rfl rfl) ?_
  rintro m t16 h1
  replace h1 : number_canonical_l1 v35 (m + 1) t16 = some o36 := h1
  rw [number_canonical_l1] at h1
  refine nx 5 rfl (fD [19] h1 rfl (fun c17 h1 => ?_) fun c17 h1 => ?_)
  ·refine nx 10 rfl (bd h1 fun o41 h2 h1 => ?_)
   refine kN o41 (fun v42 => ⟨[(0, .p (eS v35)), (17, .p (eI (v35.length : Int))), (18, .p (eI t16)), (30, .p (eB v42))], []⟩) ?_ ?_
   ·refine nx 1 rfl (fB [30] h1 rfl (fun c22 h1 => ?_) fun c22 h1 => ?_)
    ·exact nx 6 rfl (mQ (hR0 _ (oi h1).symm) rfl (sr))
    refine nx 3 rfl (oA h1 rfl rfl fun hk23 h1 => ?_)
    exact nx 2 rfl (eX (t16 + 1) h1 (gE rfl rfl))
   refine nx 3 rfl (oI h2 rfl fun hk18 h2 => ?_)
   refine nx 2 rfl (fD [24, 25] h2 rfl (fun c19 h2 => ?_) fun c19 h2 => ?_)
   ·exact nx 6 rfl (eX _ (oi h2).symm (gE rfl rfl))
   refine nx 2 rfl (oI h2 rfl fun hk20 h2 => ?_)
   exact nx 3 rfl (eX _ (oi h2).symm (gE rfl rfl))
  exact nx 2 rfl (eXi _ (oi h1).symm (gE rfl rfl))
 refine nx 1 rfl (bd h1 fun o43 h2 h1 => ?_)
 refine kN o43 (fun v44 => ⟨[(0, .p (eS s_0)), (11, .p (eB v44))], []⟩) ?_ ?_
 ·refine nx 1 rfl (fB [11] h1 rfl (fun c4 h1 => ?_) fun c4 h1 => ?_)
  ·refine nx 4 rfl (oP h1 rfl rfl rfl fun hk5 h1 => ?_)
   refine nx 5 rfl (oS rfl rfl ?_)
   refine nx 1 rfl (fD [15] h1 rfl (fun c6 h1 => ?_) fun c6 h1 => ?_)
   ·exact nx 6 rfl (mQ (hR0 _ (oi h1).symm) rfl (sr))
   exact nx 2 rfl (eX _ (oi h1).symm (gE rfl rfl))
  exact nx 2 rfl (eX _ (oi h1).symm (gE rfl rfl))
 refine nx 2 rfl (oLs rfl ?_)
 refine nx 2 rfl (fD [6, 7] h2 rfl (fun c1 h2 => ?_) fun c1 h2 => ?_)
 ·refine nx 1 rfl (oI h2 rfl fun hk2 h2 => ?_)
  exact nx 3 rfl (eX _ (oi h2).symm (gE rfl rfl))
 exact nx 5 rfl (eX _ (oi h2).symm (gE rfl rfl))

def number_Valid (n_0 : Int) : Option Bool :=
 (
   if (-9007199254740992) ≤ n_0 then
    some (decide (n_0 ≤ 9007199254740992))
   else
    some false
  : Option Bool).bind fun t2 =>
 some t2

set_option maxHeartbeats 4000000 in
theorem number_Valid_ok (n_0 : Int) (r : Bool) (h0 : number_Valid n_0 = some r) : PCalls Tryz.prog 125 [eI n_0] (· = .p (eB r)) := by
 unfold number_Valid at h0
 refine pbodyA good Tryz.func125 rfl rfl rfl fun w0 => mP (fun v : Bool => .p (eB v)) ?_
 refine nx 5 rfl (bd h0 fun o4 h1 h0 => ?_)
 refine kN o4 (fun v5 => ⟨[(2, .p (eB v5))], []⟩) ?_ ?_
 ·exact nx 2 rfl (mQ (oi h0) rfl (sr))
 refine nx 4 rfl (fD [4, 5] h1 rfl (fun c1 h1 => ?_) fun c1 h1 => ?_)
 ·exact nx 5 rfl (eX _ (oi h1).symm (gE rfl rfl))
 exact nx 5 rfl (eX _ (oi h1).symm (gE rfl rfl))

def number_Parse (n : Nat) (s_0 : Bytes) : Option (Int × Int) :=
 (number_canonical n s_0).bind fun r1 =>
 if (!r1) = true then
  some (0, 2)
 else
  (strconv_ParseInt s_0 10 64).bind fun r4 =>
  (
    if r4.2 = true then
     some true
    else
     (number_Valid r4.1).bind fun r7 =>
     some (!r7)
   : Option Bool).bind fun t9 =>
  if t9 = true then
   some (0, 5)
  else
   some (r4.1, 0)

set_option maxHeartbeats 4000000 in
theorem number_Parse_ok (n : Nat) (s_0 : Bytes) (r : Int × Int) (h0 : number_Parse n s_0 = some r) : PCalls Tryz.prog 98 [eS s_0] (· = .tuple [.p (eI r.1), .p (eI r.2)]) := by
 unfold number_Parse at h0
 refine pbodyA good Tryz.func98 rfl rfl rfl fun w0 => mP (fun v : Int × Int => .tuple [.p (eI v.1), .p (eI v.2)]) ?_
 refine nx 9 rfl (bd h0 fun r1 e2 h0 => ?_)
 refine oK (number_canonical_ok _ s_0 _ e2) rfl ⟨sr, trivial⟩ Tryz.call123 rfl (nx 2 rfl ?_)
 refine fB [8] h0 rfl (fun c3 h0 => ?_) fun c3 h0 => ?_
 ·exact nx 7 rfl (mQ (oi h0) rfl (sub_tuple ⟨sr, sr, trivial⟩))
 refine nx 5 rfl (bd h0 fun r4 e5 h0 => ?_)
 refine oK (strconv_ParseInt_ok s_0 10 64 _ e5) rfl ⟨sr, sr, sr, trivial⟩ Tryz.call124 (settle_tu (settle_cons rfl (settle_cons (toPV_E _) settle_nil))) (nx 8 rfl ?_)
 refine bd h0 fun o12 h1 h0 => kN o12 (fun v13 => ⟨[(4, .p (eI r4.1)), (20, .p (eB v13))], []⟩) ?_ ?_
 ·refine nx 1 rfl (fB [20] h0 rfl (fun c10 h0 => ?_) fun c10 h0 => ?_)
  ·exact nx 7 rfl (mQ (oi h0) rfl (sub_tuple ⟨sr, sr, trivial⟩))
  exact nx 9 rfl (mQ (oi h0) rfl (sub_tuple ⟨sr, sr, trivial⟩))
 refine nx 2 rfl (mO rfl (ok_eqE rfl rfl rfl rfl rfl rfl (.inr ⟨rfl, rfl⟩) ?_))
 refine nx 1 rfl (fB [15, 16] h1 rfl (fun c6 h1 => ?_) fun c6 h1 => ?_)
 ·exact nx 5 rfl (eX _ (oi h1).symm (gE rfl rfl))
 refine nx 1 rfl (bd h1 fun r7 e8 h1 => ?_)
 refine oK (number_Valid_ok r4.1 _ e8) rfl ⟨sr, trivial⟩ Tryz.call125 rfl (nx 3 rfl ?_)
 exact eX _ (oi h1).symm (gE rfl rfl)

def strlit_Quote_l1 (s_0 : Bytes) : Nat → Int → (List UInt8) → Option (List UInt8)
 | 0, _, _ => none
 | m + 1, t37, f38 =>
 if t37 < (s_0.length : Int) then
  ck ((0 : Int) ≤ t37 ∧ t37 < (s_0.length : Int)) <|
  (
    if byt s_0 t37 = 10 then
     (strings_Builder_WriteString (TBuilder.mk f38) ([92, 110] : Bytes)).bind fun r42 =>
     some r42.2.2.fbuf
    else
     if byt s_0 t37 = 13 then
      (strings_Builder_WriteString (TBuilder.mk f38) ([92, 114] : Bytes)).bind fun r45 =>
      some r45.2.2.fbuf
     else
      if byt s_0 t37 = 9 then
       (strings_Builder_WriteString (TBuilder.mk f38) ([92, 116] : Bytes)).bind fun r48 =>
       some r48.2.2.fbuf
      else
       (
         if byt s_0 t37 = 34 then
          some true
         else
          some (decide (byt s_0 t37 = 92))
        : Option Bool).bind fun t51 =>
       if t51 = true then
        (strings_Builder_WriteByte (TBuilder.mk f38) 92).bind fun r53 =>
        (strings_Builder_WriteByte (TBuilder.mk r53.2.fbuf) (byt s_0 t37)).bind fun r55 =>
        some r55.2.fbuf
       else
        (
          if byt s_0 t37 < 32 then
           some true
          else
           some (decide (byt s_0 t37 = 127))
         : Option Bool).bind fun t58 =>
        if t58 = true then
         ck (inR (byt s_0 t37)) <|
         (strconv_FormatInt (byt s_0 t37) 16).bind fun r61 =>
         ck (([92, 117, 123] : Bytes).length + r61.length ≤ 9223372036854775807) <|
         ck ((([92, 117, 123] : Bytes) ++ r61).length + ([125] : Bytes).length ≤ 9223372036854775807) <|
         (strings_Builder_WriteString (TBuilder.mk f38) ((([92, 117, 123] : Bytes) ++ r61) ++ ([125] : Bytes))).bind fun r65 =>
         some r65.2.2.fbuf
        else
         (strings_Builder_WriteByte (TBuilder.mk f38) (byt s_0 t37)).bind fun r67 =>
         some r67.2.fbuf
   : Option (List UInt8)).bind fun f69 =>
  ck (inR (t37 + 1)) <|
  strlit_Quote_l1 s_0 m (t37 + 1) f69
 else
  some f38

def strlit_Quote (n : Nat) (s_0 : Bytes) : Option Bytes :=
 (strings_Builder_WriteByte (TBuilder.mk []) 34).bind fun r1 =>
 (strlit_Quote_l1 s_0 n 0 r1.2.fbuf).bind fun f73 =>
 (strings_Builder_WriteByte (TBuilder.mk f73) 34).bind fun r74 =>
 (strings_Builder_String (TBuilder.mk r74.2.fbuf)).bind fun r76 =>
 some r76.1

set_option maxHeartbeats 4000000 in
theorem strlit_Quote_ok (n : Nat) (s_0 : Bytes) (r : Bytes) (h0 : strlit_Quote n s_0 = some r) : PCalls Tryz.prog 96 [eS s_0] (· = .p (eS r)) := by
 unfold strlit_Quote at h0
 refine pbodyA good Tryz.func96 rfl rfl rfl fun w0 => mP (fun v : Bytes => .p (eS v)) ?_
 refine nx 6 rfl (mO rfl (ok_allocB rfl rfl rfl rfl rfl rfl rfl ?_))
 refine nx 3 rfl (bd h0 fun r1 e2 h0 => ?_)
 refine mO rfl (op_callV [3] [890000] 101000 101001 (strings_Builder_WriteByte_ok (TBuilder.mk []) 34 _ e2) rfl rfl rfl rfl rfl ⟨sr, sr, trivial⟩ rfl rfl ⟨⟨_, rfl, ⟨sr, AV.sub_nilvec _ _ _, trivial⟩⟩, trivial⟩ rfl rfl rfl rfl rfl rfl rfl rfl Tryz.call120 rfl rfl ?_)
 refine nx 5 rfl (oLs rfl ?_)
 refine nx 3 rfl (bd h0 fun o82 h1 h0 => ?_)
 refine kE 0 o82 (fun v83 => ⟨[(3, .ptr 3 0)], [(3, [.bptr 110 2 3, .vec 108000 1 (5 + 1) (v83.map eU)])]⟩) ?_ ?_
 ·refine nx 3 rfl (bd h0 fun r74 e75 h0 => ?_)
  refine mO rfl (op_callV [3] [108000] 116000 116001 (strings_Builder_WriteByte_ok (TBuilder.mk o82) 34 _ e75) rfl rfl rfl rfl rfl ⟨sr, sr, trivial⟩ rfl rfl ⟨⟨_, rfl, ⟨sr, sr, trivial⟩⟩, trivial⟩ rfl rfl rfl rfl rfl rfl rfl rfl Tryz.call120 rfl rfl ?_)
  refine nx 3 rfl (bd h0 fun r76 e77 h0 => ?_)
  refine mO rfl (op_callV [3] [116000] 117000 117000 (strings_Builder_String_ok (TBuilder.mk r74.2.fbuf) _ e77) rfl rfl rfl rfl rfl ⟨sr, trivial⟩ rfl rfl ⟨⟨_, rfl, ⟨sr, sr, trivial⟩⟩, trivial⟩ rfl rfl rfl rfl rfl rfl rfl rfl Tryz.call80 rfl rfl ?_)
  exact nx 3 rfl (mQ (oi h0) rfl (sr))
 refine lG (fun (q84 : Int × (List UInt8)) => ⟨[(0, .p (eS s_0)), (3, .ptr 3 0), (8, .p (eI (s_0.length : Int))), (9, .p (eI q84.1))], [(3, [.bptr 110 2 3, .vec 108000 1 (5 + 1) (q84.2.map eU)])]⟩) (fun m (q84 : Int × (List UInt8)) => strlit_Quote_l1 s_0 m q84.1 q84.2) (fun _ => rfl) (0, r1.2.fbuf) h1 (ghost_trans (ghost_ren 101000 108000 rfl rfl rfl rfl rfl) (gE rfl rfl)) ?_
 rintro m ⟨t37, f38⟩ h1
 replace h1 : strlit_Quote_l1 s_0 (m + 1) t37 f38 = some o82 := h1
 rw [strlit_Quote_l1] at h1
 refine nx 5 rfl (fD [10] h1 rfl (fun c39 h1 => ?_) fun c39 h1 => ?_)
 ·refine nx 13 rfl (oI h1 rfl fun hk40 h1 => ?_)
  refine nx 2 rfl (bd h1 fun o85 h2 h1 => ?_)
  refine kN o85 (fun v86 => ⟨[(0, .p (eS s_0)), (3, .ptr 3 0), (8, .p (eI (s_0.length : Int))), (9, .p (eI t37))], [(3, [.bptr 110 2 3, .vec 115000 1 (5 + 1) (v86.map eU)])]⟩) ?_ ?_
  ·refine nx 2 rfl (oA h1 rfl rfl fun hk70 h1 => ?_)
   exact nx 2 rfl (eX (t37 + 1, o85) h1 (ghost_trans (ghost_ren 115000 108000 rfl rfl rfl rfl rfl) (gE rfl rfl)))
  refine nx 7 rfl (fD [17, 19] h2 rfl (fun c41 h2 => ?_) fun c41 h2 => ?_)
  ·refine nx 2 rfl (bd h2 fun r42 e43 h2 => ?_)
   refine mO rfl (op_callV [3] [108000] 109000 109001 (strings_Builder_WriteString_ok (TBuilder.mk f38) ([92, 110] : Bytes) _ e43) rfl rfl rfl rfl rfl ⟨sr, sr, trivial⟩ rfl rfl ⟨⟨_, rfl, ⟨sr, sr, trivial⟩⟩, trivial⟩ rfl rfl rfl rfl rfl rfl rfl rfl Tryz.call78 rfl rfl ?_)
   exact nx 1 rfl (eX _ (oi h2).symm (ghost_trans (ghost_ren 109000 115000 rfl rfl rfl rfl rfl) (gE rfl rfl)))
  refine nx 7 rfl (fD [21, 23] h2 rfl (fun c44 h2 => ?_) fun c44 h2 => ?_)
  ·refine nx 2 rfl (bd h2 fun r45 e46 h2 => ?_)
   refine mO rfl (op_callV [3] [108000] 110000 110001 (strings_Builder_WriteString_ok (TBuilder.mk f38) ([92, 114] : Bytes) _ e46) rfl rfl rfl rfl rfl ⟨sr, sr, trivial⟩ rfl rfl ⟨⟨_, rfl, ⟨sr, sr, trivial⟩⟩, trivial⟩ rfl rfl rfl rfl rfl rfl rfl rfl Tryz.call78 rfl rfl ?_)
   exact nx 1 rfl (eX _ (oi h2).symm (ghost_trans (ghost_ren 110000 115000 rfl rfl rfl rfl rfl) (gE rfl rfl)))
  refine nx 7 rfl (fD [25, 27] h2 rfl (fun c47 h2 => ?_) fun c47 h2 => ?_)
  ·refine nx 2 rfl (bd h2 fun r48 e49 h2 => ?_)
   refine mO rfl (op_callV [3] [108000] 111000 111001 (strings_Builder_WriteString_ok (TBuilder.mk f38) ([92, 116] : Bytes) _ e49) rfl rfl rfl rfl rfl ⟨sr, sr, trivial⟩ rfl rfl ⟨⟨_, rfl, ⟨sr, sr, trivial⟩⟩, trivial⟩ rfl rfl rfl rfl rfl rfl rfl rfl Tryz.call78 rfl rfl ?_)
   exact nx 1 rfl (eX _ (oi h2).symm (ghost_trans (ghost_ren 111000 115000 rfl rfl rfl rfl rfl) (gE rfl rfl)))
  refine nx 2 rfl (bd h2 fun o87 h3 h2 => ?_)
  refine kN o87 (fun v88 => ⟨[(0, .p (eS s_0)), (3, .ptr 3 0), (5, .p (eK .u8 (byt s_0 t37))), (8, .p (eI (s_0.length : Int))), (9, .p (eI t37)), (29, .p (eB v88))], [(3, [.bptr 110 2 3, .vec 108000 1 (5 + 1) (f38.map eU)])]⟩) ?_ ?_
  ·refine nx 1 rfl (fB [29] h2 rfl (fun c52 h2 => ?_) fun c52 h2 => ?_)
   ·refine nx 3 rfl (bd h2 fun r53 e54 h2 => ?_)
    refine mO rfl (op_callV [3] [108000] 112000 112001 (strings_Builder_WriteByte_ok (TBuilder.mk f38) 92 _ e54) rfl rfl rfl rfl rfl ⟨sr, sr, trivial⟩ rfl rfl ⟨⟨_, rfl, ⟨sr, sr, trivial⟩⟩, trivial⟩ rfl rfl rfl rfl rfl rfl rfl rfl Tryz.call120 rfl rfl ?_)
    refine nx 3 rfl (bd h2 fun r55 e56 h2 => ?_)
    refine mO rfl (op_callV [3] [112000] 113000 113001 (strings_Builder_WriteByte_ok (TBuilder.mk r53.2.fbuf) (byt s_0 t37) _ e56) rfl rfl rfl rfl rfl ⟨sr, sr, trivial⟩ rfl rfl ⟨⟨_, rfl, ⟨sr, sr, trivial⟩⟩, trivial⟩ rfl rfl rfl rfl rfl rfl rfl rfl Tryz.call120 rfl rfl ?_)
    exact nx 1 rfl (eX _ (oi h2).symm (ghost_trans (ghost_ren 113000 115000 rfl rfl rfl rfl rfl) (gE rfl rfl)))
   refine nx 2 rfl (bd h2 fun o89 h3 h2 => ?_)
   refine kN o89 (fun v90 => ⟨[(0, .p (eS s_0)), (3, .ptr 3 0), (5, .p (eK .u8 (byt s_0 t37))), (8, .p (eI (s_0.length : Int))), (9, .p (eI t37)), (39, .p (eB v90))], [(3, [.bptr 110 2 3, .vec 108000 1 (5 + 1) (f38.map eU)])]⟩) ?_ ?_
   ·refine nx 1 rfl (fB [39] h2 rfl (fun c59 h2 => ?_) fun c59 h2 => ?_)
    ·refine nx 3 rfl (cc' h2 fun hk60 h2 => ?_)
     refine mO rfl (ok_convInt rfl rfl rfl rfl rfl rfl rfl rfl (wrap_in hk60) ?_)
     refine bd h2 fun r61 e62 h2 => oK (strconv_FormatInt_ok (byt s_0 t37) 16 _ e62) rfl ⟨sr, sr, trivial⟩ Tryz.call121 rfl (oC h2 rfl fun hk63 h2 => ?_)
     refine oC h2 rfl fun hk64 h2 => bd h2 fun r65 e66 h2 => mO rfl (op_callV [3] [108000] 114000 114001 (strings_Builder_WriteString_ok (TBuilder.mk f38) ((([92, 117, 123] : Bytes) ++ r61) ++ ([125] : Bytes)) _ e66) rfl rfl rfl rfl rfl ⟨sr, sr, trivial⟩ rfl rfl ⟨⟨_, rfl, ⟨sr, sr, trivial⟩⟩, trivial⟩ rfl rfl rfl rfl rfl rfl rfl rfl Tryz.call78 rfl rfl ?_)
     exact nx 1 rfl (eX _ (oi h2).symm (ghost_trans (ghost_ren 114000 115000 rfl rfl rfl rfl rfl) (gE rfl rfl)))
    refine nx 3 rfl (bd h2 fun r67 e68 h2 => ?_)
    refine mO rfl (op_callV [3] [108000] 115000 115001 (strings_Builder_WriteByte_ok (TBuilder.mk f38) (byt s_0 t37) _ e68) rfl rfl rfl rfl rfl ⟨sr, sr, trivial⟩ rfl rfl ⟨⟨_, rfl, ⟨sr, sr, trivial⟩⟩, trivial⟩ rfl rfl rfl rfl rfl rfl rfl rfl Tryz.call120 rfl rfl ?_)
    exact nx 1 rfl (eX _ (oi h2).symm (gE rfl rfl))
   refine nx 4 rfl (fD [41, 42] h3 rfl (fun c57 h3 => ?_) fun c57 h3 => ?_)
   ·exact nx 5 rfl (eX _ (oi h3).symm (gE rfl rfl))
   exact nx 5 rfl (eX _ (oi h3).symm (gE rfl rfl))
  refine nx 4 rfl (fD [31, 32] h3 rfl (fun c50 h3 => ?_) fun c50 h3 => ?_)
  ·exact nx 5 rfl (eX _ (oi h3).symm (gE rfl rfl))
  exact nx 5 rfl (eX _ (oi h3).symm (gE rfl rfl))
 exact nx 2 rfl (eXi _ (oi h1).symm (gE rfl rfl))

def strlit_hexadecimal_l1 (s_0 : Bytes) : Nat → Int → Int → Option (Int × Int)
 | 0, _, _ => none
 | m + 1, n11, i12 =>
 (
   if i12 < (s_0.length : Int) then
    some (decide (i12 < 6))
   else
    some false
  : Option Bool).bind fun t14 =>
 if t14 = true then
  ck ((0 : Int) ≤ i12 ∧ i12 < (s_0.length : Int)) <|
  (strings_IndexByte ([48, 49, 50, 51, 52, 53, 54, 55, 56, 57, 97, 98, 99, 100, 101, 102] : Bytes) (byt s_0 i12)).bind fun r17 =>
  if r17 < 0 then
   some (n11, i12)
  else
   ck (inR (i12 + 1)) <|
   strlit_hexadecimal_l1 s_0 m (IntKind.wrap .i32 ((IntKind.wrap .i32 (16 * n11)) + (IntKind.wrap .i32 (r17)))) (i12 + 1)
 else
  some (n11, i12)

def strlit_hexadecimal (n : Nat) (s_0 : Bytes) : Option (Int × Int × Int) :=
 (strlit_hexadecimal_l1 s_0 n 0 0).bind fun q39 =>
 if q39.2 = (s_0.length : Int) then
  some (0, 0, 40)
 else
  (
    ck ((0 : Int) ≤ q39.2 ∧ q39.2 < (s_0.length : Int)) <|
    if byt s_0 q39.2 = 125 then
     if q39.2 = 0 then
      some true
     else
      if 1 < q39.2 then
       ck ((0 : Int) ≤ 0 ∧ 0 < (s_0.length : Int)) <|
       if byt s_0 0 = 48 then
        some true
       else
        (unicode_utf8_ValidRune q39.1).bind fun r32 =>
        some (!r32)
      else
       (unicode_utf8_ValidRune q39.1).bind fun r34 =>
       some (!r34)
    else
     some true
   : Option Bool).bind fun t36 =>
  if t36 = true then
   some (0, 0, 2)
  else
   ck (inR (q39.2 + 1)) <|
   some (q39.1, q39.2 + 1, 0)

set_option maxHeartbeats 4000000 in
theorem strlit_hexadecimal_ok (n : Nat) (s_0 : Bytes) (r : Int × Int × Int) (h0 : strlit_hexadecimal n s_0 = some r) : PCalls Tryz.prog 138 [eS s_0] (· = .tuple [.p (eK .i32 r.1), .p (eI r.2.1), .p (eI r.2.2)]) := by
 unfold strlit_hexadecimal at h0
 refine pbodyA good Tryz.func138 rfl rfl rfl fun w0 => mP (fun v : Int × Int × Int => .tuple [.p (eK .i32 v.1), .p (eI v.2.1), .p (eI v.2.2)]) ?_
 refine nx 13 rfl (bd h0 fun o42 h1 h0 => ?_)
 refine kE 0 o42 (fun v43 => ⟨[(0, .p (eS s_0)), (5, .p (eK .i32 v43.1)), (6, .p (eI v43.2))], []⟩) ?_ ?_
 ·refine nx 6 rfl (oLs rfl ?_)
  refine nx 2 rfl (fD [32] h0 rfl (fun c25 h0 => ?_) fun c25 h0 => ?_)
  ·exact nx 8 rfl (mQ (oi h0) rfl (sub_tuple ⟨sr, sr, sr, trivial⟩))
  refine nx 4 rfl (bd h0 fun o44 h1 h0 => ?_)
  refine kN o44 (fun v45 => ⟨[(5, .p (eK .i32 o42.1)), (6, .p (eI o42.2)), (54, .p (eB v45))], []⟩) ?_ ?_
  ·refine nx 1 rfl (fB [54] h0 rfl (fun c37 h0 => ?_) fun c37 h0 => ?_)
   ·exact nx 8 rfl (mQ (oi h0) rfl (sub_tuple ⟨sr, sr, sr, trivial⟩))
   refine nx 6 rfl (oA h0 rfl rfl fun hk38 h0 => ?_)
   exact nx 5 rfl (mQ (oi h0) rfl (sub_tuple ⟨sr, sr, sr, trivial⟩))
  refine nx 3 rfl (oI h1 rfl fun hk26 h1 => ?_)
  refine nx 2 rfl (fN [36, 37] h1 rfl (fun c27 h1 => ?_) fun c27 h1 => ?_)
  ·refine nx 4 rfl (fD [39, 40, 41] h1 rfl (fun c28 h1 => ?_) fun c28 h1 => ?_)
   ·exact nx 14 rfl (eX _ (oi h1).symm (gE rfl rfl))
   refine nx 3 rfl (fD [43, 44] h1 rfl (fun c29 h1 => ?_) fun c29 h1 => ?_)
   ·refine nx 1 rfl (oI h1 rfl fun hk30 h1 => ?_)
    refine nx 4 rfl (fD [47, 48, 49, 50] h1 rfl (fun c31 h1 => ?_) fun c31 h1 => ?_)
    ·exact nx 5 rfl (eX _ (oi h1).symm (gE rfl rfl))
    refine nx 1 rfl (bd h1 fun r32 e33 h1 => ?_)
    refine oK (unicode_utf8_ValidRune_ok o42.1 _ e33) rfl ⟨sr, trivial⟩ Tryz.call134 rfl (nx 3 rfl ?_)
    exact eX _ (oi h1).symm (gE rfl rfl)
   refine nx 7 rfl (bd h1 fun r34 e35 h1 => ?_)
   refine oK (unicode_utf8_ValidRune_ok o42.1 _ e35) rfl ⟨sr, trivial⟩ Tryz.call134 rfl (nx 3 rfl ?_)
   exact eX _ (oi h1).symm (gE rfl rfl)
  exact nx 18 rfl (eX _ (oi h1).symm (gE rfl rfl))
 refine lG (fun (q46 : Int × Int) => ⟨[(0, .p (eS s_0)), (5, .p (eK .i32 q46.1)), (6, .p (eI q46.2))], []⟩) (fun m (q46 : Int × Int) => strlit_hexadecimal_l1 s_0 m q46.1 q46.2) (fun _ => rfl) (0, 0) h1 (gE rfl rfl) ?_
 rintro m ⟨n11, i12⟩ h1
 replace h1 : strlit_hexadecimal_l1 s_0 (m + 1) n11 i12 = some o42 := h1
 rw [strlit_hexadecimal_l1] at h1
 refine nx 2 rfl (bd h1 fun o47 h2 h1 => ?_)
 refine kN o47 (fun v48 => ⟨[(0, .p (eS s_0)), (5, .p (eK .i32 n11)), (6, .p (eI i12)), (15, .p (eB v48))], []⟩) ?_ ?_
 ·refine nx 1 rfl (fB [15] h1 rfl (fun c15 h1 => ?_) fun c15 h1 => ?_)
  ·refine nx 8 rfl (oI h1 rfl fun hk16 h1 => ?_)
   refine bd h1 fun r17 e18 h1 => oK (strings_IndexByte_ok ([48, 49, 50, 51, 52, 53, 54, 55, 56, 57, 97, 98, 99, 100, 101, 102] : Bytes) (byt s_0 i12) _ e18) rfl ⟨sr, sr, trivial⟩ Tryz.call97 rfl (nx 8 rfl ?_)
   refine fD [23] h1 rfl (fun c19 h1 => ?_) fun c19 h1 => ?_
   ·exact nx 2 rfl (eXi _ (oi h1).symm (gE rfl rfl))
   refine nx 12 rfl (oA h1 rfl rfl fun hk20 h1 => ?_)
   exact nx 2 rfl (eX (IntKind.wrap .i32 ((IntKind.wrap .i32 (16 * n11)) + (IntKind.wrap .i32 (r17))), i12 + 1) h1 (gE rfl rfl))
  exact nx 2 rfl (eXi _ (oi h1).symm (gE rfl rfl))
 refine nx 3 rfl (oLs rfl ?_)
 refine nx 2 rfl (fD [11, 12] h2 rfl (fun c13 h2 => ?_) fun c13 h2 => ?_)
 ·exact nx 4 rfl (eX _ (oi h2).symm (gE rfl rfl))
 exact nx 4 rfl (eX _ (oi h2).symm (gE rfl rfl))

def strlit_escape (n : Nat) (s_0 : Bytes) : Option (Int × Int × Int) :=
 if s_0 = ([] : Bytes) then
  some (0, 0, 40)
 else
  ck ((0 : Int) ≤ 0 ∧ 0 < (s_0.length : Int)) <|
  if byt s_0 0 = 110 then
   some (10, 1, 0)
  else
   if byt s_0 0 = 114 then
    some (13, 1, 0)
   else
    if byt s_0 0 = 116 then
     some (9, 1, 0)
    else
     (
       if byt s_0 0 = 34 then
        some true
       else
        some (decide (byt s_0 0 = 92))
      : Option Bool).bind fun t7 =>
     if t7 = true then
      ck ((0 : Int) ≤ 0 ∧ 0 < (s_0.length : Int)) <|
      some (IntKind.wrap .i32 (byt s_0 0), 1, 0)
     else
      if byt s_0 0 = 117 then
       if (s_0.length : Int) = 1 then
        some (0, 0, 40)
       else
        ck ((0 : Int) ≤ 1 ∧ 1 < (s_0.length : Int)) <|
        if byt s_0 1 = 123 then
         ck ((0 : Int) ≤ 2 ∧ 2 ≤ (s_0.length : Int) ∧ (s_0.length : Int) ≤ (s_0.length : Int)) <|
         (strlit_hexadecimal n (sub s_0 2 (s_0.length : Int))).bind fun r15 =>
         ck (inR (r15.2.1 + 2)) <|
         some (r15.1, r15.2.1 + 2, r15.2.2)
        else
         some (0, 0, 2)
      else
       some (0, 0, 2)

set_option maxHeartbeats 4000000 in
theorem strlit_escape_ok (n : Nat) (s_0 : Bytes) (r : Int × Int × Int) (h0 : strlit_escape n s_0 = some r) : PCalls Tryz.prog 117 [eS s_0] (· = .tuple [.p (eK .i32 r.1), .p (eI r.2.1), .p (eI r.2.2)]) := by
 unfold strlit_escape at h0
 refine pbodyA good Tryz.func117 rfl rfl rfl fun w0 => mP (fun v : Int × Int × Int => .tuple [.p (eK .i32 v.1), .p (eI v.2.1), .p (eI v.2.2)]) ?_
 refine nx 10 rfl (oS rfl rfl ?_)
 refine nx 1 rfl (fD [9] h0 rfl (fun c1 h0 => ?_) fun c1 h0 => ?_)
 ·exact nx 8 rfl (mQ (oi h0) rfl (sub_tuple ⟨sr, sr, sr, trivial⟩))
 refine nx 6 rfl (oI h0 rfl fun hk2 h0 => ?_)
 refine nx 7 rfl (fD [12, 13] h0 rfl (fun c3 h0 => ?_) fun c3 h0 => ?_)
 ·exact nx 8 rfl (mQ (oi h0) rfl (sub_tuple ⟨sr, sr, sr, trivial⟩))
 refine nx 6 rfl (fD [14, 15] h0 rfl (fun c4 h0 => ?_) fun c4 h0 => ?_)
 ·exact nx 8 rfl (mQ (oi h0) rfl (sub_tuple ⟨sr, sr, sr, trivial⟩))
 refine nx 6 rfl (fD [16, 17] h0 rfl (fun c5 h0 => ?_) fun c5 h0 => ?_)
 ·exact nx 8 rfl (mQ (oi h0) rfl (sub_tuple ⟨sr, sr, sr, trivial⟩))
 refine nx 2 rfl (bd h0 fun o19 h1 h0 => ?_)
 refine kN o19 (fun v20 => ⟨[(0, .p (eS s_0)), (11, .p (eK .u8 (byt s_0 0))), (18, .p (eB v20))], []⟩) ?_ ?_
 ·refine nx 1 rfl (fB [18] h0 rfl (fun c8 h0 => ?_) fun c8 h0 => ?_)
  ·refine nx 4 rfl (oI h0 rfl fun hk9 h0 => ?_)
   exact nx 6 rfl (mQ (oi h0) rfl (sub_tuple ⟨sr, sr, sr, trivial⟩))
  refine nx 6 rfl (fD [24, 25] h0 rfl (fun c10 h0 => ?_) fun c10 h0 => ?_)
  ·refine nx 5 rfl (oLs rfl ?_)
   refine nx 2 rfl (fD [28] h0 rfl (fun c11 h0 => ?_) fun c11 h0 => ?_)
   ·exact nx 8 rfl (mQ (oi h0) rfl (sub_tuple ⟨sr, sr, sr, trivial⟩))
   refine nx 6 rfl (oI h0 rfl fun hk12 h0 => ?_)
   refine nx 2 rfl (fN [31] h0 rfl (fun c13 h0 => ?_) fun c13 h0 => ?_)
   ·refine nx 5 rfl (oP h0 rfl rfl rfl fun hk14 h0 => ?_)
    refine bd h0 fun r15 e16 h0 => oK (strlit_hexadecimal_ok _ (sub s_0 2 (s_0.length : Int)) _ e16) rfl ⟨sr, trivial⟩ Tryz.call138 rfl (nx 12 rfl ?_)
    refine oA h0 rfl rfl fun hk17 h0 => nx 5 rfl (mG (gE (t := ⟨[(2, .p (eK .i32 r15.1)), (3, .p (eI (r15.2.1 + 2))), (4, .p (eI r15.2.2))], []⟩) rfl rfl) ?_)
    exact nx 1 rfl (mQ (oi h0) rfl (sub_tuple ⟨sr, sr, sr, trivial⟩))
   exact nx 8 rfl (mQ (oi h0) rfl (sub_tuple ⟨sr, sr, sr, trivial⟩))
  exact nx 9 rfl (mQ (oi h0) rfl (sub_tuple ⟨sr, sr, sr, trivial⟩))
 refine nx 5 rfl (fD [18, 19] h1 rfl (fun c6 h1 => ?_) fun c6 h1 => ?_)
 ·exact nx 2 rfl (eX _ (oi h1).symm (gE rfl rfl))
 exact nx 5 rfl (eX _ (oi h1).symm (gE rfl rfl))

def strlit_Unquote_l1 (n : Nat) (s_0 : Bytes) : Nat → Int → (List UInt8) → Option ((Int × (List UInt8)) ⊕ (Bytes × Int × Int))
 | 0, _, _ => none
 | m + 1, at31, f32 =>
 (
   if at31 < (s_0.length : Int) then
    ck ((0 : Int) ≤ at31 ∧ at31 < (s_0.length : Int)) <|
    some (!decide (byt s_0 at31 = 34))
   else
    some false
  : Option Bool).bind fun t35 =>
 if t35 = true then
  ck ((0 : Int) ≤ at31 ∧ at31 ≤ (s_0.length : Int) ∧ (s_0.length : Int) ≤ (s_0.length : Int)) <|
  (unicode_utf8_DecodeRuneInString (sub s_0 at31 (s_0.length : Int))).bind fun r38 =>
  jn (
    if r38.1 = 92 then
     ck (inR (at31 + 1)) <|
     ck ((0 : Int) ≤ at31 + 1 ∧ at31 + 1 ≤ (s_0.length : Int) ∧ (s_0.length : Int) ≤ (s_0.length : Int)) <|
     (strlit_escape n (sub s_0 (at31 + 1) (s_0.length : Int))).bind fun r43 =>
     if r43.2.2 = 0 then
      ck (inR (r43.2.1 + 1)) <|
      some (.inl (r43.1, r43.2.1 + 1))
     else
      some (.inr (.inr (([] : Bytes), 0, r43.2.2)))
    else
     (
       if r38.1 = 65533 then
        if r38.2 = 1 then
         some true
        else
         if r38.1 < 32 then
          some true
         else
          some (decide (r38.1 = 127))
       else
        if r38.1 < 32 then
         some true
        else
         some (decide (r38.1 = 127))
      : Option Bool).bind fun t51 =>
     if t51 = true then
      some (.inr (.inr (([] : Bytes), 0, 2)))
     else
      some (.inl (r38.1, r38.2))
   : Option ((Int × Int) ⊕ ((Int × (List UInt8)) ⊕ (Bytes × Int × Int)))) fun q71 =>
  (strings_Builder_WriteRune (TBuilder.mk f32) q71.1).bind fun r55 =>
  ck (inR (at31 + q71.2)) <|
  strlit_Unquote_l1 n s_0 m (at31 + q71.2) r55.2.2.fbuf
 else
  some (.inl (at31, f32))

def strlit_Unquote (n : Nat) (s_0 : Bytes) : Option (Bytes × Int × Int) :=
 if s_0 = ([] : Bytes) then
  some (([] : Bytes), 0, 40)
 else
  ck ((0 : Int) ≤ 0 ∧ 0 < (s_0.length : Int)) <|
  if byt s_0 0 = 34 then
   jn (strlit_Unquote_l1 n s_0 n 1 []) fun q69 =>
   if q69.1 = (s_0.length : Int) then
    some (([] : Bytes), 0, 40)
   else
    (strings_Builder_Len (TBuilder.mk q69.2)).bind fun r63 =>
    if 4096 < r63.1 then
     some (([] : Bytes), 0, 3)
    else
     (strings_Builder_String (TBuilder.mk r63.2.fbuf)).bind fun r66 =>
     ck (inR (q69.1 + 1)) <|
     some (r66.1, q69.1 + 1, 0)
  else
   some (([] : Bytes), 0, 2)

set_option maxHeartbeats 4000000 in
theorem strlit_Unquote_ok (n : Nat) (s_0 : Bytes) (r : Bytes × Int × Int) (h0 : strlit_Unquote n s_0 = some r) : PCalls Tryz.prog 95 [eS s_0] (· = .tuple [.p (eS r.1), .p (eI r.2.1), .p (eI r.2.2)]) := by
 unfold strlit_Unquote at h0
 refine pbodyA good Tryz.func95 rfl rfl rfl fun w0 => mP (fun v : Bytes × Int × Int => .tuple [.p (eS v.1), .p (eI v.2.1), .p (eI v.2.2)]) ?_
 refine nx 10 rfl (oS rfl rfl ?_)
 refine nx 1 rfl (fD [13] h0 rfl (fun c1 h0 => ?_) fun c1 h0 => ?_)
 ·exact nx 8 rfl (mQ (oi h0) rfl (sub_tuple ⟨sr, sr, sr, trivial⟩))
 refine nx 6 rfl (oI h0 rfl fun hk2 h0 => ?_)
 refine nx 2 rfl (fN [16] h0 rfl (fun c3 h0 => ?_) fun c3 h0 => ?_)
 ·refine nx 4 rfl (mO rfl (ok_allocB rfl rfl rfl rfl rfl rfl rfl ?_))
  refine nx 7 rfl ?_
  obtain ⟨o73, h1, hL0, hR0⟩ := jn_cut h0
  refine kEx 0 (fun v74 : Int × (List UInt8) => o73 = .inl v74) (fun v74 => ⟨[(0, .p (eS s_0)), (5, .ptr 5 0), (6, .p (eI v74.1))], [(5, [.bptr 110 2 5, .vec 101000 1 (5 + 1) (v74.2.map eU)])]⟩) (fun v74 hv => ?_) ?_
  ·have h0 := hL0 _ hv
   refine nx 6 rfl (oLs rfl ?_)
   refine nx 2 rfl (fD [73] h0 rfl (fun c62 h0 => ?_) fun c62 h0 => ?_)
   ·exact nx 8 rfl (mQ (oi h0) rfl (sub_tuple ⟨sr, sr, sr, trivial⟩))
   refine nx 5 rfl (bd h0 fun r63 e64 h0 => ?_)
   refine mO rfl (op_callV [5] [101000] 103000 103001 (strings_Builder_Len_ok (TBuilder.mk v74.2) _ e64) rfl rfl rfl rfl rfl ⟨sr, trivial⟩ rfl rfl ⟨⟨_, rfl, ⟨sr, sr, trivial⟩⟩, trivial⟩ rfl rfl rfl rfl rfl rfl rfl rfl Tryz.call119 rfl rfl ?_)
   refine nx 2 rfl (fD [75] h0 rfl (fun c65 h0 => ?_) fun c65 h0 => ?_)
   ·exact nx 8 rfl (mQ (oi h0) rfl (sub_tuple ⟨sr, sr, sr, trivial⟩))
   refine nx 4 rfl (bd h0 fun r66 e67 h0 => ?_)
   refine mO rfl (op_callV [5] [103000] 104000 104000 (strings_Builder_String_ok (TBuilder.mk r63.2.fbuf) _ e67) rfl rfl rfl rfl rfl ⟨sr, trivial⟩ rfl rfl ⟨⟨_, rfl, ⟨sr, sr, trivial⟩⟩, trivial⟩ rfl rfl rfl rfl rfl rfl rfl rfl Tryz.call80 rfl rfl ?_)
   refine nx 1 rfl (oA h0 rfl rfl fun hk68 h0 => ?_)
   exact nx 5 rfl (mQ (oi h0) rfl (sub_tuple ⟨sr, sr, sr, trivial⟩))
  refine lG (fun (q75 : Int × (List UInt8)) => ⟨[(0, .p (eS s_0)), (5, .ptr 5 0), (6, .p (eI q75.1))], [(5, [.bptr 110 2 5, .vec 101000 1 (5 + 1) (q75.2.map eU)])]⟩) (fun m (q75 : Int × (List UInt8)) => strlit_Unquote_l1 n s_0 m q75.1 q75.2) (fun _ => rfl) (1, []) h1 (ghost_le (le_mk ⟨er rfl, er rfl, er rfl, trivial⟩ ⟨⟨_, rfl, ⟨sr, AV.sub_nilvec _ _ _, trivial⟩⟩, trivial⟩)) ?_
  rintro m ⟨at31, f32⟩ h1
  replace h1 : strlit_Unquote_l1 n s_0 (m + 1) at31 f32 = some o73 := h1
  rw [strlit_Unquote_l1] at h1
  refine nx 2 rfl (bd h1 fun o76 h2 h1 => ?_)
  refine kN o76 (fun v77 => ⟨[(0, .p (eS s_0)), (5, .ptr 5 0), (6, .p (eI at31)), (26, .p (eB v77))], [(5, [.bptr 110 2 5, .vec 101000 1 (5 + 1) (f32.map eU)])]⟩) ?_ ?_
  ·refine nx 1 rfl (fB [26] h1 rfl (fun c36 h1 => ?_) fun c36 h1 => ?_)
   ·refine nx 7 rfl (oP h1 rfl rfl rfl fun hk37 h1 => ?_)
    refine bd h1 fun r38 e39 h1 => oK (unicode_utf8_DecodeRuneInString_ok (sub s_0 at31 (s_0.length : Int)) _ e39) rfl ⟨sr, trivial⟩ Tryz.call116 rfl (nx 7 rfl ?_)
    obtain ⟨o78, h2, hL1, hR1⟩ := jn_cut h1
    refine kX (fun v79 : Int × Int => o78 = .inl v79) (fun v79 => ⟨[(0, .p (eS s_0)), (5, .ptr 5 0), (6, .p (eI at31)), (7, .p (eK .i32 v79.1)), (8, .p (eI v79.2))], [(5, [.bptr 110 2 5, .vec 101000 1 (5 + 1) (f32.map eU)])]⟩) (fun v79 hv => ?_) ?_
    ·have h1 := hL1 _ hv
     refine nx 4 rfl (bd h1 fun r55 e56 h1 => ?_)
     refine mO rfl (op_callV [5] [101000] 102000 102001 (strings_Builder_WriteRune_ok (TBuilder.mk f32) v79.1 _ e56) rfl rfl rfl rfl rfl ⟨sr, sr, trivial⟩ rfl rfl ⟨⟨_, rfl, ⟨sr, sr, trivial⟩⟩, trivial⟩ rfl rfl rfl rfl rfl rfl rfl rfl Tryz.call118 rfl rfl ?_)
     refine nx 4 rfl (oA h1 rfl rfl fun hk57 h1 => ?_)
     exact nx 2 rfl (eX (at31 + v79.2, r55.2.2.fbuf) h1 (ghost_trans (ghost_ren 102000 101000 rfl rfl rfl rfl rfl) (gE rfl rfl)))
    refine nx 5 rfl (fD [35] h2 rfl (fun c40 h2 => ?_) fun c40 h2 => ?_)
    ·refine nx 5 rfl (oA h2 rfl rfl fun hk41 h2 => ?_)
     refine oP h2 rfl rfl rfl fun hk42 h2 => bd h2 fun r43 e44 h2 => oK (strlit_escape_ok _ (sub s_0 (at31 + 1) (s_0.length : Int)) _ e44) rfl ⟨sr, trivial⟩ Tryz.call117 rfl (nx 14 rfl ?_)
     refine fN [46] h2 rfl (fun c45 h2 => ?_) fun c45 h2 => ?_
     ·refine nx 5 rfl (oA h2 rfl rfl fun hk46 h2 => ?_)
      exact nx 3 rfl (eX _ (oi h2).symm (gE rfl rfl))
     refine nx 8 rfl (mG (gE (t := ⟨[(2, .p (eS ([] : Bytes))), (3, .p (eI 0)), (4, .p (eI r43.2.2))], []⟩) rfl rfl) ?_)
     exact nx 1 rfl (mQ (hR0 _ (hR1 _ (oi h2).symm).symm) rfl (sub_tuple ⟨sr, sr, sr, trivial⟩))
    refine nx 2 rfl (bd h2 fun o80 h3 h2 => ?_)
    refine kN o80 (fun v81 => ⟨[(0, .p (eS s_0)), (5, .ptr 5 0), (6, .p (eI at31)), (7, .p (eK .i32 r38.1)), (8, .p (eI r38.2)), (64, .p (eB v81))], [(5, [.bptr 110 2 5, .vec 101000 1 (5 + 1) (f32.map eU)])]⟩) ?_ ?_
    ·refine nx 1 rfl (fB [64] h2 rfl (fun c52 h2 => ?_) fun c52 h2 => ?_)
     ·exact nx 8 rfl (mQ (hR0 _ (hR1 _ (oi h2).symm).symm) rfl (sub_tuple ⟨sr, sr, sr, trivial⟩))
     exact nx 2 rfl (eX _ (oi h2).symm (gE rfl rfl))
    refine nx 4 rfl (fD [52, 53] h3 rfl (fun c47 h3 => ?_) fun c47 h3 => ?_)
    ·refine nx 4 rfl (fD [55, 56, 57] h3 rfl (fun c48 h3 => ?_) fun c48 h3 => ?_)
     ·exact nx 8 rfl (eX _ (oi h3).symm (gE rfl rfl))
     refine nx 4 rfl (fD [59, 60, 61] h3 rfl (fun c49 h3 => ?_) fun c49 h3 => ?_)
     ·exact nx 4 rfl (eX _ (oi h3).symm (gE rfl rfl))
     exact nx 4 rfl (eX _ (oi h3).symm (gE rfl rfl))
    refine nx 8 rfl (fD [59, 60, 61] h3 rfl (fun c50 h3 => ?_) fun c50 h3 => ?_)
    ·exact nx 4 rfl (eX _ (oi h3).symm (gE rfl rfl))
    exact nx 4 rfl (eX _ (oi h3).symm (gE rfl rfl))
   exact nx 2 rfl (eXi _ (oi h1).symm (gE rfl rfl))
  refine nx 3 rfl (oLs rfl ?_)
  refine nx 2 rfl (fD [20, 21] h2 rfl (fun c33 h2 => ?_) fun c33 h2 => ?_)
  ·refine nx 2 rfl (oI h2 rfl fun hk34 h2 => ?_)
   exact nx 3 rfl (eX _ (oi h2).symm (gE rfl rfl))
  exact nx 6 rfl (eX _ (oi h2).symm (gE rfl rfl))
 exact nx 8 rfl (mQ (oi h0) rfl (sub_tuple ⟨sr, sr, sr, trivial⟩))

def strlit_Valid (s_0 : Bytes) : Option Bool :=
 (
   if (s_0.length : Int) ≤ 4096 then
    (unicode_utf8_ValidString s_0).bind fun r2 =>
    some r2
   else
    some false
  : Option Bool).bind fun t4 =>
 some t4

set_option maxHeartbeats 4000000 in
theorem strlit_Valid_ok (s_0 : Bytes) (r : Bool) (h0 : strlit_Valid s_0 = some r) : PCalls Tryz.prog 126 [eS s_0] (· = .p (eB r)) := by
 unfold strlit_Valid at h0
 refine pbodyA good Tryz.func126 rfl rfl rfl fun w0 => mP (fun v : Bool => .p (eB v)) ?_
 refine nx 5 rfl (bd h0 fun o6 h1 h0 => ?_)
 refine kN o6 (fun v7 => ⟨[(2, .p (eB v7))], []⟩) ?_ ?_
 ·exact nx 2 rfl (mQ (oi h0) rfl (sr))
 refine nx 2 rfl (oLs rfl ?_)
 refine nx 2 rfl (fD [5, 6] h1 rfl (fun c1 h1 => ?_) fun c1 h1 => ?_)
 ·refine nx 1 rfl (bd h1 fun r2 e3 h1 => ?_)
  refine oK (unicode_utf8_ValidString_ok s_0 _ e3) rfl ⟨sr, trivial⟩ Tryz.call144 rfl (nx 3 rfl ?_)
  exact eX _ (oi h1).symm (gE rfl rfl)
 exact nx 5 rfl (eX _ (oi h1).symm (gE rfl rfl))

end Go.Ab.R06
