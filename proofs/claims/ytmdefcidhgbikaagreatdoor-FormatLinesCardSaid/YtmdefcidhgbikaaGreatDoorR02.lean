/- Chapter 16. -/
import Derived.Test.YtmdefcidhgbikaaGreatDoorDat16
import Derived.Test.YtmdefcidhgbikaaGreatDoorRB
import Derived.Test.YtmdefcidhgbikaaGreatDoorLc
import Derived.Test.YtmdefcidhgbikaaGreatDoorAbMc
set_option linter.unusedVariables false
set_option linter.unusedSimpArgs false
set_option linter.unnecessarySimpa false
namespace Go.Ab.R06
open Go.Proofs Go.Ab Go.Ab.RB
attribute [local irreducible] awp rwpL OpOk PCalls OCalls AV.sub M Ghost
def strlit_Quote_l1 (s_0 : Bytes) : Nat → Int → (List UInt8) → Option (List UInt8)
 | 0, _, _ => none
 | m + 1, t37, f38 =>
 if t37 < (s_0.length : Int) then
  ck ((0 : Int) ≤ t37 ∧ t37 < (s_0.length : Int)) <|
  (
    if byt s_0 t37 = 10 then
     (strings_Builder_WriteString (TBuilder.mk f38) ([92, 110] : Bytes)).bind fun r42 =>
     some r42.2.2.fbuf
    else
     if byt s_0 t37 = 13 then
      (strings_Builder_WriteString (TBuilder.mk f38) ([92, 114] : Bytes)).bind fun r45 =>
      some r45.2.2.fbuf
     else
      if byt s_0 t37 = 9 then
       (strings_Builder_WriteString (TBuilder.mk f38) ([92, 116] : Bytes)).bind fun r48 =>
       some r48.2.2.fbuf
      else
       (
         if byt s_0 t37 = 34 then
          some true
         else
          some (decide (byt s_0 t37 = 92))
        : Option Bool).bind fun t51 =>
       if t51 = true then
        (strings_Builder_WriteByte (TBuilder.mk f38) 92).bind fun r53 =>
        (strings_Builder_WriteByte (TBuilder.mk r53.2.fbuf) (byt s_0 t37)).bind fun r55 =>
        some r55.2.fbuf
       else
        (
          if byt s_0 t37 < 32 then
           some true
          else
           some (decide (byt s_0 t37 = 127))
         : Option Bool).bind fun t58 =>
        if t58 = true then
         ck (inR (byt s_0 t37)) <|
         (strconv_FormatInt (byt s_0 t37) 16).bind fun r61 =>
         ck (([92, 117, 123] : Bytes).length + r61.length ≤ 9223372036854775807) <|
         ck ((([92, 117, 123] : Bytes) ++ r61).length + ([125] : Bytes).length ≤ 9223372036854775807) <|
         (strings_Builder_WriteString (TBuilder.mk f38) ((([92, 117, 123] : Bytes) ++ r61) ++ ([125] : Bytes))).bind fun r65 =>
         some r65.2.2.fbuf
        else
         (strings_Builder_WriteByte (TBuilder.mk f38) (byt s_0 t37)).bind fun r67 =>
         some r67.2.fbuf
   : Option (List UInt8)).bind fun f69 =>
  ck (inR (t37 + 1)) <|
  strlit_Quote_l1 s_0 m (t37 + 1) f69
 else
  some f38
def strlit_Quote (n : Nat) (s_0 : Bytes) : Option Bytes :=
 (strings_Builder_WriteByte (TBuilder.mk []) 34).bind fun r1 =>
 (strlit_Quote_l1 s_0 n 0 r1.2.fbuf).bind fun f73 =>
 (strings_Builder_WriteByte (TBuilder.mk f73) 34).bind fun r74 =>
 (strings_Builder_String (TBuilder.mk r74.2.fbuf)).bind fun r76 =>
 some r76.1
set_option maxHeartbeats 4000000 in
theorem strlit_Quote_ok (n : Nat) (s_0 : Bytes) (r : Bytes) (h0 : strlit_Quote n s_0 = some r) : PCalls Tryz.prog 88 [eS s_0] (· = .p (eS r)) := by
 unfold strlit_Quote at h0
 refine pbodyA good Tryz.func88 rfl rfl rfl fun w0 => mP (fun v : Bytes => .p (eS v)) ?_
 refine nx 6 rfl (mO rfl (ok_allocB rfl rfl rfl rfl rfl rfl rfl ?_))
 refine nx 3 rfl (bd h0 fun r1 e2 h0 => ?_)
 refine mO rfl (op_callV [3] [890000] 101000 101001 (strings_Builder_WriteByte_ok (TBuilder.mk []) 34 _ e2) rfl rfl rfl rfl rfl ⟨sr, sr, trivial⟩ rfl rfl ⟨⟨_, rfl, ⟨sr, AV.sub_nilvec _ _ _, trivial⟩⟩, trivial⟩ rfl rfl rfl rfl rfl rfl rfl rfl Tryz.call77 rfl rfl ?_)
 refine nx 5 rfl (oLs rfl ?_)
 refine nx 3 rfl (bd h0 fun o82 h1 h0 => ?_)
 refine kE 0 o82 (fun v83 => ⟨[(3, .ptr 3 0)], [(3, [.bptr 77 2 3, .vec 108000 1 (5 + 1) (v83.map eU)])]⟩) ?_ ?_
 ·refine nx 3 rfl (bd h0 fun r74 e75 h0 => ?_)
  refine mO rfl (op_callV [3] [108000] 116000 116001 (strings_Builder_WriteByte_ok (TBuilder.mk o82) 34 _ e75) rfl rfl rfl rfl rfl ⟨sr, sr, trivial⟩ rfl rfl ⟨⟨_, rfl, ⟨sr, sr, trivial⟩⟩, trivial⟩ rfl rfl rfl rfl rfl rfl rfl rfl Tryz.call77 rfl rfl ?_)
  refine nx 3 rfl (bd h0 fun r76 e77 h0 => ?_)
  refine mO rfl (op_callV [3] [116000] 117000 117000 (strings_Builder_String_ok (TBuilder.mk r74.2.fbuf) _ e77) rfl rfl rfl rfl rfl ⟨sr, trivial⟩ rfl rfl ⟨⟨_, rfl, ⟨sr, sr, trivial⟩⟩, trivial⟩ rfl rfl rfl rfl rfl rfl rfl rfl Tryz.call47 rfl rfl ?_)
  exact nx 3 rfl (mQ (oi h0) rfl (sr))
 refine lG (fun (q84 : Int × (List UInt8)) => ⟨[(0, .p (eS s_0)), (3, .ptr 3 0), (8, .p (eI (s_0.length : Int))), (9, .p (eI q84.1))], [(3, [.bptr 77 2 3, .vec 108000 1 (5 + 1) (q84.2.map eU)])]⟩) (fun m (q84 : Int × (List UInt8)) => strlit_Quote_l1 s_0 m q84.1 q84.2) (fun _ => rfl) (0, r1.2.fbuf) h1 (ghost_trans (ghost_ren 101000 108000 rfl rfl rfl rfl rfl) (gE rfl rfl)) ?_
 rintro m ⟨t37, f38⟩ h1
 replace h1 : strlit_Quote_l1 s_0 (m + 1) t37 f38 = some o82 := h1
 rw [strlit_Quote_l1] at h1
 refine nx 5 rfl (fD [10] h1 rfl (fun c39 h1 => ?_) fun c39 h1 => ?_)
 ·refine nx 13 rfl (oI h1 rfl fun hk40 h1 => ?_)
  refine nx 2 rfl (bd h1 fun o85 h2 h1 => ?_)
  refine kN o85 (fun v86 => ⟨[(0, .p (eS s_0)), (3, .ptr 3 0), (8, .p (eI (s_0.length : Int))), (9, .p (eI t37))], [(3, [.bptr 77 2 3, .vec 115000 1 (5 + 1) (v86.map eU)])]⟩) ?_ ?_
  ·refine nx 2 rfl (oA h1 rfl rfl fun hk70 h1 => ?_)
   exact nx 2 rfl (eX (t37 + 1, o85) h1 (ghost_trans (ghost_ren 115000 108000 rfl rfl rfl rfl rfl) (gE rfl rfl)))
  refine nx 7 rfl (fD [17, 19] h2 rfl (fun c41 h2 => ?_) fun c41 h2 => ?_)
  ·refine nx 2 rfl (bd h2 fun r42 e43 h2 => ?_)
   refine mO rfl (op_callV [3] [108000] 109000 109001 (strings_Builder_WriteString_ok (TBuilder.mk f38) ([92, 110] : Bytes) _ e43) rfl rfl rfl rfl rfl ⟨sr, sr, trivial⟩ rfl rfl ⟨⟨_, rfl, ⟨sr, sr, trivial⟩⟩, trivial⟩ rfl rfl rfl rfl rfl rfl rfl rfl Tryz.call79 rfl rfl ?_)
   exact nx 1 rfl (eX _ (oi h2).symm (ghost_trans (ghost_ren 109000 115000 rfl rfl rfl rfl rfl) (gE rfl rfl)))
  refine nx 7 rfl (fD [21, 23] h2 rfl (fun c44 h2 => ?_) fun c44 h2 => ?_)
  ·refine nx 2 rfl (bd h2 fun r45 e46 h2 => ?_)
   refine mO rfl (op_callV [3] [108000] 110000 110001 (strings_Builder_WriteString_ok (TBuilder.mk f38) ([92, 114] : Bytes) _ e46) rfl rfl rfl rfl rfl ⟨sr, sr, trivial⟩ rfl rfl ⟨⟨_, rfl, ⟨sr, sr, trivial⟩⟩, trivial⟩ rfl rfl rfl rfl rfl rfl rfl rfl Tryz.call79 rfl rfl ?_)
   exact nx 1 rfl (eX _ (oi h2).symm (ghost_trans (ghost_ren 110000 115000 rfl rfl rfl rfl rfl) (gE rfl rfl)))
  refine nx 7 rfl (fD [25, 27] h2 rfl (fun c47 h2 => ?_) fun c47 h2 => ?_)
  ·refine nx 2 rfl (bd h2 fun r48 e49 h2 => ?_)
   refine mO rfl (op_callV [3] [108000] 111000 111001 (strings_Builder_WriteString_ok (TBuilder.mk f38) ([92, 116] : Bytes) _ e49) rfl rfl rfl rfl rfl ⟨sr, sr, trivial⟩ rfl rfl ⟨⟨_, rfl, ⟨sr, sr, trivial⟩⟩, trivial⟩ rfl rfl rfl rfl rfl rfl rfl rfl Tryz.call79 rfl rfl ?_)
   exact nx 1 rfl (eX _ (oi h2).symm (ghost_trans (ghost_ren 111000 115000 rfl rfl rfl rfl rfl) (gE rfl rfl)))
  refine nx 2 rfl (bd h2 fun o87 h3 h2 => ?_)
  refine kN o87 (fun v88 => ⟨[(0, .p (eS s_0)), (3, .ptr 3 0), (5, .p (eK .u8 (byt s_0 t37))), (8, .p (eI (s_0.length : Int))), (9, .p (eI t37)), (29, .p (eB v88))], [(3, [.bptr 77 2 3, .vec 108000 1 (5 + 1) (f38.map eU)])]⟩) ?_ ?_
  ·refine nx 1 rfl (fB [29] h2 rfl (fun c52 h2 => ?_) fun c52 h2 => ?_)
   ·refine nx 3 rfl (bd h2 fun r53 e54 h2 => ?_)
    refine mO rfl (op_callV [3] [108000] 112000 112001 (strings_Builder_WriteByte_ok (TBuilder.mk f38) 92 _ e54) rfl rfl rfl rfl rfl ⟨sr, sr, trivial⟩ rfl rfl ⟨⟨_, rfl, ⟨sr, sr, trivial⟩⟩, trivial⟩ rfl rfl rfl rfl rfl rfl rfl rfl Tryz.call77 rfl rfl ?_)
    refine nx 3 rfl (bd h2 fun r55 e56 h2 => ?_)
    refine mO rfl (op_callV [3] [112000] 113000 113001 (strings_Builder_WriteByte_ok (TBuilder.mk r53.2.fbuf) (byt s_0 t37) _ e56) rfl rfl rfl rfl rfl ⟨sr, sr, trivial⟩ rfl rfl ⟨⟨_, rfl, ⟨sr, sr, trivial⟩⟩, trivial⟩ rfl rfl rfl rfl rfl rfl rfl rfl Tryz.call77 rfl rfl ?_)
    exact nx 1 rfl (eX _ (oi h2).symm (ghost_trans (ghost_ren 113000 115000 rfl rfl rfl rfl rfl) (gE rfl rfl)))
   refine nx 2 rfl (bd h2 fun o89 h3 h2 => ?_)
   refine kN o89 (fun v90 => ⟨[(0, .p (eS s_0)), (3, .ptr 3 0), (5, .p (eK .u8 (byt s_0 t37))), (8, .p (eI (s_0.length : Int))), (9, .p (eI t37)), (39, .p (eB v90))], [(3, [.bptr 77 2 3, .vec 108000 1 (5 + 1) (f38.map eU)])]⟩) ?_ ?_
   ·refine nx 1 rfl (fB [39] h2 rfl (fun c59 h2 => ?_) fun c59 h2 => ?_)
    ·refine nx 3 rfl (cc' h2 fun hk60 h2 => ?_)
     refine mO rfl (ok_convInt rfl rfl rfl rfl rfl rfl rfl rfl (wrap_in hk60) ?_)
     refine bd h2 fun r61 e62 h2 => oK (strconv_FormatInt_ok (byt s_0 t37) 16 _ e62) rfl ⟨sr, sr, trivial⟩ Tryz.call124 rfl (oC h2 rfl fun hk63 h2 => ?_)
     refine oC h2 rfl fun hk64 h2 => bd h2 fun r65 e66 h2 => mO rfl (op_callV [3] [108000] 114000 114001 (strings_Builder_WriteString_ok (TBuilder.mk f38) ((([92, 117, 123] : Bytes) ++ r61) ++ ([125] : Bytes)) _ e66) rfl rfl rfl rfl rfl ⟨sr, sr, trivial⟩ rfl rfl ⟨⟨_, rfl, ⟨sr, sr, trivial⟩⟩, trivial⟩ rfl rfl rfl rfl rfl rfl rfl rfl Tryz.call79 rfl rfl ?_)
     exact nx 1 rfl (eX _ (oi h2).symm (ghost_trans (ghost_ren 114000 115000 rfl rfl rfl rfl rfl) (gE rfl rfl)))
    refine nx 3 rfl (bd h2 fun r67 e68 h2 => ?_)
    refine mO rfl (op_callV [3] [108000] 115000 115001 (strings_Builder_WriteByte_ok (TBuilder.mk f38) (byt s_0 t37) _ e68) rfl rfl rfl rfl rfl ⟨sr, sr, trivial⟩ rfl rfl ⟨⟨_, rfl, ⟨sr, sr, trivial⟩⟩, trivial⟩ rfl rfl rfl rfl rfl rfl rfl rfl Tryz.call77 rfl rfl ?_)
    exact nx 1 rfl (eX _ (oi h2).symm (gE rfl rfl))
   refine nx 4 rfl (fD [41, 42] h3 rfl (fun c57 h3 => ?_) fun c57 h3 => ?_)
   ·exact nx 5 rfl (eX _ (oi h3).symm (gE rfl rfl))
   exact nx 5 rfl (eX _ (oi h3).symm (gE rfl rfl))
  refine nx 4 rfl (fD [31, 32] h3 rfl (fun c50 h3 => ?_) fun c50 h3 => ?_)
  ·exact nx 5 rfl (eX _ (oi h3).symm (gE rfl rfl))
  exact nx 5 rfl (eX _ (oi h3).symm (gE rfl rfl))
 exact nx 2 rfl (eXi _ (oi h1).symm (gE rfl rfl))
def number_Format (n_0 : Int) : Option Bytes :=
 (strconv_Itoa n_0).bind fun r1 =>
 some r1
set_option maxHeartbeats 4000000 in
theorem number_Format_ok (n_0 : Int) (r : Bytes) (h0 : number_Format n_0 = some r) : PCalls Tryz.prog 75 [eI n_0] (· = .p (eS r)) := by
 unfold number_Format at h0
 refine pbodyA good Tryz.func75 rfl rfl rfl fun w0 => mP (fun v : Bytes => .p (eS v)) ?_
 refine nx 7 rfl (bd h0 fun r1 e2 h0 => ?_)
 refine oK (strconv_Itoa_ok n_0 _ e2) rfl ⟨sr, trivial⟩ Tryz.call117 rfl (nx 3 rfl ?_)
 exact mQ (oi h0) rfl (sr)
end Go.Ab.R06
