/- Chapter 06. -/
import Derived.Test.YtijgdpmadidpaaaGreatDoorR06f
set_option linter.unusedVariables false
set_option linter.unusedSimpArgs false
set_option linter.unnecessarySimpa false
namespace Go.Ab.R06
open Go.Proofs Go.Ab Go.Ab.RB
attribute [local irreducible] awp rwpL OpOk PCalls OCalls AV.sub M Ghost

def ref02_cont (s_0 : Bytes) (i_1 : Int) (lo_2 : Int) (hi_3 : Int) : Option Bool :=
 (
   if i_1 < (s_0.length : Int) then
    ck ((0 : Int) ≤ i_1 ∧ i_1 < (s_0.length : Int)) <|
    if lo_2 ≤ byt s_0 i_1 then
     ck ((0 : Int) ≤ i_1 ∧ i_1 < (s_0.length : Int)) <|
     some (decide (byt s_0 i_1 ≤ hi_3))
    else
     some false
   else
    some false
  : Option Bool).bind fun t5 =>
 some t5

set_option maxHeartbeats 4000000 in
theorem ref02_cont_ok (s_0 : Bytes) (i_1 : Int) (lo_2 : Int) (hi_3 : Int) (r : Bool) (h0 : ref02_cont s_0 i_1 lo_2 hi_3 = some r) : PCalls Tryz.prog 108 [eS s_0, eI i_1, eK .u8 lo_2, eK .u8 hi_3] (· = .p (eB r)) := by
 unfold ref02_cont at h0
 refine pbodyA good Tryz.func108 rfl rfl rfl fun w0 => mP (fun v : Bool => .p (eB v)) ?_
 refine nx 5 rfl (bd h0 fun o7 h1 h0 => ?_)
 refine kN o7 (fun v8 => ⟨[(8, .p (eB v8))], []⟩) ?_ ?_
 ·exact nx 2 rfl (mQ (oi h0) rfl (sr))
 refine nx 3 rfl (oLs rfl ?_)
 refine nx 2 rfl (fD [12, 13] h1 rfl (fun c1 h1 => ?_) fun c1 h1 => ?_)
 ·refine nx 2 rfl (oI h1 rfl fun hk2 h1 => ?_)
  refine nx 4 rfl (fD [18, 19, 20] h1 rfl (fun c3 h1 => ?_) fun c3 h1 => ?_)
  ·refine nx 2 rfl (oI h1 rfl fun hk4 h1 => ?_)
   exact nx 5 rfl (eX _ (oi h1).symm (gE rfl rfl))
  exact nx 8 rfl (eX _ (oi h1).symm (gE rfl rfl))
 exact nx 15 rfl (eX _ (oi h1).symm (gE rfl rfl))

def ref02_Decode (s_0 : Bytes) (i_1 : Int) : Option (Int × Int) :=
 (
   if i_1 < 0 then
    some true
   else
    some (decide ((s_0.length : Int) ≤ i_1))
  : Option Bool).bind fun t2 =>
 if t2 = true then
  some (0, 0)
 else
  ck ((0 : Int) ≤ i_1 ∧ i_1 < (s_0.length : Int)) <|
  if byt s_0 i_1 < 128 then
   ck (inR (byt s_0 i_1)) <|
   some (byt s_0 i_1, 1)
  else
   (
     if 194 ≤ byt s_0 i_1 then
      if byt s_0 i_1 ≤ 223 then
       ck (inR (i_1 + 1)) <|
       (ref02_cont s_0 (i_1 + 1) 128 191).bind fun r10 =>
       some r10
      else
       some false
     else
      some false
    : Option Bool).bind fun t12 =>
   if t12 = true then
    ck (inR (iAnd .u8 (byt s_0 i_1) 31)) <|
    ck ((0 : Int) ≤ 6) <|
    ck (inR (i_1 + 1)) <|
    ck ((0 : Int) ≤ i_1 + 1 ∧ i_1 + 1 < (s_0.length : Int)) <|
    ck (inR (iAnd .u8 (byt s_0 (i_1 + 1)) 63)) <|
    some (iOr .i64 (iShl .i64 (iAnd .u8 (byt s_0 i_1) 31) 6) (iAnd .u8 (byt s_0 (i_1 + 1)) 63), 2)
   else
    (
      if byt s_0 i_1 = 224 then
       some 160
      else
       some 128
     : Option Int).bind fun lo20 =>
    (
      if byt s_0 i_1 = 237 then
       some 159
      else
       some 191
     : Option Int).bind fun hi22 =>
    (
      if 224 ≤ byt s_0 i_1 then
       if byt s_0 i_1 ≤ 239 then
        ck (inR (i_1 + 1)) <|
        (ref02_cont s_0 (i_1 + 1) lo20 hi22).bind fun r26 =>
        if r26 = true then
         ck (inR (i_1 + 2)) <|
         (ref02_cont s_0 (i_1 + 2) 128 191).bind fun r30 =>
         some r30
        else
         some false
       else
        some false
      else
       some false
     : Option Bool).bind fun t32 =>
    if t32 = true then
     ck (inR (iAnd .u8 (byt s_0 i_1) 15)) <|
     ck ((0 : Int) ≤ 12) <|
     ck (inR (i_1 + 1)) <|
     ck ((0 : Int) ≤ i_1 + 1 ∧ i_1 + 1 < (s_0.length : Int)) <|
     ck (inR (iAnd .u8 (byt s_0 (i_1 + 1)) 63)) <|
     ck ((0 : Int) ≤ 6) <|
     ck (inR (i_1 + 2)) <|
     ck ((0 : Int) ≤ i_1 + 2 ∧ i_1 + 2 < (s_0.length : Int)) <|
     ck (inR (iAnd .u8 (byt s_0 (i_1 + 2)) 63)) <|
     some (iOr .i64 (iOr .i64 (iShl .i64 (iAnd .u8 (byt s_0 i_1) 15) 12) (iShl .i64 (iAnd .u8 (byt s_0 (i_1 + 1)) 63) 6)) (iAnd .u8 (byt s_0 (i_1 + 2)) 63), 3)
    else
     (
       if byt s_0 i_1 = 240 then
        some 144
       else
        some 128
      : Option Int).bind fun lo44 =>
     (
       if byt s_0 i_1 = 244 then
        some 143
       else
        some 191
      : Option Int).bind fun hi46 =>
     (
       if 240 ≤ byt s_0 i_1 then
        if byt s_0 i_1 ≤ 244 then
         ck (inR (i_1 + 1)) <|
         (ref02_cont s_0 (i_1 + 1) lo44 hi46).bind fun r50 =>
         if r50 = true then
          ck (inR (i_1 + 2)) <|
          (ref02_cont s_0 (i_1 + 2) 128 191).bind fun r54 =>
          if r54 = true then
           ck (inR (i_1 + 3)) <|
           (ref02_cont s_0 (i_1 + 3) 128 191).bind fun r58 =>
           some r58
          else
           some false
         else
          some false
        else
         some false
       else
        some false
      : Option Bool).bind fun t60 =>
     if t60 = true then
      ck (inR (iAnd .u8 (byt s_0 i_1) 7)) <|
      ck ((0 : Int) ≤ 18) <|
      ck (inR (i_1 + 1)) <|
      ck ((0 : Int) ≤ i_1 + 1 ∧ i_1 + 1 < (s_0.length : Int)) <|
      ck (inR (iAnd .u8 (byt s_0 (i_1 + 1)) 63)) <|
      ck ((0 : Int) ≤ 12) <|
      ck (inR (i_1 + 2)) <|
      ck ((0 : Int) ≤ i_1 + 2 ∧ i_1 + 2 < (s_0.length : Int)) <|
      ck (inR (iAnd .u8 (byt s_0 (i_1 + 2)) 63)) <|
      ck ((0 : Int) ≤ 6) <|
      ck (inR (i_1 + 3)) <|
      ck ((0 : Int) ≤ i_1 + 3 ∧ i_1 + 3 < (s_0.length : Int)) <|
      ck (inR (iAnd .u8 (byt s_0 (i_1 + 3)) 63)) <|
      some (iOr .i64 (iOr .i64 (iOr .i64 (iShl .i64 (iAnd .u8 (byt s_0 i_1) 7) 18) (iShl .i64 (iAnd .u8 (byt s_0 (i_1 + 1)) 63) 12)) (iShl .i64 (iAnd .u8 (byt s_0 (i_1 + 2)) 63) 6)) (iAnd .u8 (byt s_0 (i_1 + 3)) 63), 4)
     else
      some (0, 0)

set_option maxHeartbeats 4000000 in
theorem ref02_Decode_ok (s_0 : Bytes) (i_1 : Int) (r : Int × Int) (h0 : ref02_Decode s_0 i_1 = some r) : PCalls Tryz.prog 84 [eS s_0, eI i_1] (· = .tuple [.p (eI r.1), .p (eI r.2)]) := by
 unfold ref02_Decode at h0
 refine pbodyA good Tryz.func84 rfl rfl rfl fun w0 => mP (fun v : Int × Int => .tuple [.p (eI v.1), .p (eI v.2)]) ?_
 refine nx 7 rfl (bd h0 fun o83 h1 h0 => ?_)
 refine kN o83 (fun v84 => ⟨[(0, .p (eS s_0)), (1, .p (eI i_1)), (16, .p (eB v84))], []⟩) ?_ ?_
 ·refine nx 1 rfl (fB [16] h0 rfl (fun c3 h0 => ?_) fun c3 h0 => ?_)
  ·exact nx 7 rfl (mQ (oi h0) rfl (sub_tuple ⟨sr, sr, trivial⟩))
  refine nx 6 rfl (oI h0 rfl fun hk4 h0 => ?_)
  refine nx 8 rfl (fD [21] h0 rfl (fun c5 h0 => ?_) fun c5 h0 => ?_)
  ·refine nx 4 rfl (cc' h0 fun hk6 h0 => ?_)
   refine mO rfl (ok_convInt rfl rfl rfl rfl rfl rfl rfl rfl (wrap_in hk6) ?_)
   exact nx 4 rfl (mQ (oi h0) rfl (sub_tuple ⟨sr, sr, trivial⟩))
  refine nx 4 rfl (bd h0 fun o85 h1 h0 => ?_)
  refine kN o85 (fun v86 => ⟨[(0, .p (eS s_0)), (1, .p (eI i_1)), (6, .p (eK .u8 (byt s_0 i_1))), (35, .p (eB v86))], []⟩) ?_ ?_
  ·refine nx 1 rfl (fB [35] h0 rfl (fun c13 h0 => ?_) fun c13 h0 => ?_)
   ·refine nx 5 rfl (cc' h0 fun hk14 h0 => ?_)
    refine mO rfl (ok_convInt rfl rfl rfl rfl rfl rfl rfl rfl (wrap_in hk14) ?_)
    refine cc' h0 fun hk15 h0 => mO rfl (ok_sh rfl rfl rfl rfl rfl rfl hk15 ?_)
    refine nx 2 rfl (oA h0 rfl rfl fun hk16 h0 => ?_)
    refine oI h0 rfl fun hk17 h0 => nx 1 rfl (cc' h0 fun hk18 h0 => ?_)
    refine mO rfl (ok_convInt rfl rfl rfl rfl rfl rfl rfl rfl (wrap_in hk18) ?_)
    exact nx 5 rfl (mQ (oi h0) rfl (sub_tuple ⟨sr, sr, trivial⟩))
   refine nx 8 rfl (bd h0 fun o87 h1 h0 => ?_)
   refine kN o87 (fun v88 => ⟨[(0, .p (eS s_0)), (1, .p (eI i_1)), (6, .p (eK .u8 (byt s_0 i_1))), (7, .p (eK .u8 v88)), (8, .p (eK .u8 191))], []⟩) ?_ ?_
   ·refine nx 2 rfl (bd h0 fun o89 h1 h0 => ?_)
    refine kN o89 (fun v90 => ⟨[(0, .p (eS s_0)), (1, .p (eI i_1)), (6, .p (eK .u8 (byt s_0 i_1))), (7, .p (eK .u8 o87)), (8, .p (eK .u8 v90))], []⟩) ?_ ?_
    ·refine nx 3 rfl (bd h0 fun o91 h1 h0 => ?_)
     refine kN o91 (fun v92 => ⟨[(0, .p (eS s_0)), (1, .p (eI i_1)), (6, .p (eK .u8 (byt s_0 i_1))), (70, .p (eB v92))], []⟩) ?_ ?_
     ·refine nx 1 rfl (fB [70] h0 rfl (fun c33 h0 => ?_) fun c33 h0 => ?_)
      ·refine nx 2 rfl (cc' h0 fun hk34 h0 => ?_)
       refine cc' h0 fun hk35 h0 => cc' h0 fun hk36 h0 => cc' h0 fun hk37 h0 => cc' h0 fun hk38 h0 => cc' h0 fun hk39 h0 => cc' h0 fun hk40 h0 => cc' h0 fun hk41 h0 => cc' h0 fun hk42 h0 => mD [(0, .p (eS s_0)), (1, .p (eI i_1)), (6, .p (eK .u8 (byt s_0 i_1)))] rfl ⟨rfl, rfl, rfl, trivial⟩ rfl (dR 2 rfl ?_)
       refine dq (.p (eI (iAnd .u8 (byt s_0 i_1) 15))) [72] rfl (fun _ e _ q => one_op rfl (ok_convInt rfl rfl rfl rfl rfl rfl rfl (e _ _ rfl) (wrap_in hk34) q)) rfl (dq (.p (eI (iShl .i64 (iAnd .u8 (byt s_0 i_1) 15) 12))) [73] rfl (fun _ e _ q => one_op rfl (ok_sh rfl rfl rfl (e _ _ rfl) rfl rfl hk35 q)) rfl ?_)
       refine dR 2 rfl (dq (.p (eI (i_1 + 1))) [76] rfl (fun _ e _ q => one_op rfl (ok_ar rfl rfl rfl (e _ _ rfl) rfl rfl hk36 q)) rfl ?_)
       refine dq (.p (eK .u8 (byt s_0 (i_1 + 1)))) [75,77] rfl (fun _ e _ q => one_op rfl (op_indexS rfl rfl rfl rfl rfl (e _ _ rfl) (e _ _ rfl) hk37 q)) rfl (dR 1 rfl ?_)
       refine dq (.p (eI (iAnd .u8 (byt s_0 (i_1 + 1)) 63))) [79] rfl (fun _ e _ q => one_op rfl (ok_convInt rfl rfl rfl rfl rfl rfl rfl (e _ _ rfl) (wrap_in hk38) q)) rfl (dq (.p (eI (iShl .i64 (iAnd .u8 (byt s_0 (i_1 + 1)) 63) 6))) [80] rfl (fun _ e _ q => one_op rfl (ok_sh rfl rfl rfl (e _ _ rfl) rfl rfl hk39 q)) rfl ?_)
       refine dR 3 rfl (dq (.p (eI (i_1 + 2))) [84] rfl (fun _ e _ q => one_op rfl (ok_ar rfl rfl rfl (e _ _ rfl) rfl rfl hk40 q)) rfl ?_)
       refine dq (.p (eK .u8 (byt s_0 (i_1 + 2)))) [83,85] rfl (fun _ e _ q => one_op rfl (op_indexS rfl rfl rfl rfl rfl (e _ _ rfl) (e _ _ rfl) hk41 q)) rfl (dR 1 rfl ?_)
       refine dq (.p (eI (iAnd .u8 (byt s_0 (i_1 + 2)) 63))) [87] rfl (fun _ e _ q => one_op rfl (ok_convInt rfl rfl rfl rfl rfl rfl rfl (e _ _ rfl) (wrap_in hk42) q)) rfl (dR 3 rfl ?_)
       refine dE rfl (nx 2 rfl ?_)
       exact mQ (oi h0) rfl (sub_tuple ⟨sr, sr, trivial⟩)
      refine nx 8 rfl (bd h0 fun o93 h1 h0 => ?_)
      refine kN o93 (fun v94 => ⟨[(0, .p (eS s_0)), (1, .p (eI i_1)), (6, .p (eK .u8 (byt s_0 i_1))), (7, .p (eK .u8 v94)), (8, .p (eK .u8 191))], []⟩) ?_ ?_
      ·refine nx 2 rfl (bd h0 fun o95 h1 h0 => ?_)
       refine kN o95 (fun v96 => ⟨[(0, .p (eS s_0)), (1, .p (eI i_1)), (6, .p (eK .u8 (byt s_0 i_1))), (7, .p (eK .u8 o93)), (8, .p (eK .u8 v96))], []⟩) ?_ ?_
       ·refine nx 3 rfl (bd h0 fun o97 h1 h0 => ?_)
        refine kN o97 (fun v98 => ⟨[(0, .p (eS s_0)), (1, .p (eI i_1)), (6, .p (eK .u8 (byt s_0 i_1))), (119, .p (eB v98))], []⟩) ?_ ?_
        ·refine nx 1 rfl (fB [119] h0 rfl (fun c61 h0 => ?_) fun c61 h0 => ?_)
         ·refine nx 2 rfl (cc' h0 fun hk62 h0 => ?_)
          refine cc' h0 fun hk63 h0 => cc' h0 fun hk64 h0 => cc' h0 fun hk65 h0 => cc' h0 fun hk66 h0 => cc' h0 fun hk67 h0 => cc' h0 fun hk68 h0 => cc' h0 fun hk69 h0 => cc' h0 fun hk70 h0 => cc' h0 fun hk71 h0 => cc' h0 fun hk72 h0 => cc' h0 fun hk73 h0 => cc' h0 fun hk74 h0 => ?_
          refine mD [(0, .p (eS s_0)), (1, .p (eI i_1)), (6, .p (eK .u8 (byt s_0 i_1)))] rfl ⟨rfl, rfl, rfl, trivial⟩ rfl (dR 2 rfl ?_)
          refine dq (.p (eI (iAnd .u8 (byt s_0 i_1) 7))) [121] rfl (fun _ e _ q => one_op rfl (ok_convInt rfl rfl rfl rfl rfl rfl rfl (e _ _ rfl) (wrap_in hk62) q)) rfl (dq (.p (eI (iShl .i64 (iAnd .u8 (byt s_0 i_1) 7) 18))) [122] rfl (fun _ e _ q => one_op rfl (ok_sh rfl rfl rfl (e _ _ rfl) rfl rfl hk63 q)) rfl ?_)
          refine dR 2 rfl (dq (.p (eI (i_1 + 1))) [125] rfl (fun _ e _ q => one_op rfl (ok_ar rfl rfl rfl (e _ _ rfl) rfl rfl hk64 q)) rfl ?_)
          refine dq (.p (eK .u8 (byt s_0 (i_1 + 1)))) [124,126] rfl (fun _ e _ q => one_op rfl (op_indexS rfl rfl rfl rfl rfl (e _ _ rfl) (e _ _ rfl) hk65 q)) rfl (dR 1 rfl ?_)
          refine dq (.p (eI (iAnd .u8 (byt s_0 (i_1 + 1)) 63))) [128] rfl (fun _ e _ q => one_op rfl (ok_convInt rfl rfl rfl rfl rfl rfl rfl (e _ _ rfl) (wrap_in hk66) q)) rfl (dq (.p (eI (iShl .i64 (iAnd .u8 (byt s_0 (i_1 + 1)) 63) 12))) [129] rfl (fun _ e _ q => one_op rfl (ok_sh rfl rfl rfl (e _ _ rfl) rfl rfl hk67 q)) rfl ?_)
          refine dR 3 rfl (dq (.p (eI (i_1 + 2))) [133] rfl (fun _ e _ q => one_op rfl (ok_ar rfl rfl rfl (e _ _ rfl) rfl rfl hk68 q)) rfl ?_)
          refine dq (.p (eK .u8 (byt s_0 (i_1 + 2)))) [132,134] rfl (fun _ e _ q => one_op rfl (op_indexS rfl rfl rfl rfl rfl (e _ _ rfl) (e _ _ rfl) hk69 q)) rfl (dR 1 rfl ?_)
          refine dq (.p (eI (iAnd .u8 (byt s_0 (i_1 + 2)) 63))) [136] rfl (fun _ e _ q => one_op rfl (ok_convInt rfl rfl rfl rfl rfl rfl rfl (e _ _ rfl) (wrap_in hk70) q)) rfl (dq (.p (eI (iShl .i64 (iAnd .u8 (byt s_0 (i_1 + 2)) 63) 6))) [137] rfl (fun _ e _ q => one_op rfl (ok_sh rfl rfl rfl (e _ _ rfl) rfl rfl hk71 q)) rfl ?_)
          refine dR 3 rfl (dq (.p (eI (i_1 + 3))) [141] rfl (fun _ e _ q => one_op rfl (ok_ar rfl rfl rfl (e _ _ rfl) rfl rfl hk72 q)) rfl ?_)
          refine dq (.p (eK .u8 (byt s_0 (i_1 + 3)))) [140,142] rfl (fun _ e _ q => one_op rfl (op_indexS rfl rfl rfl rfl rfl (e _ _ rfl) (e _ _ rfl) hk73 q)) rfl (dR 1 rfl ?_)
          refine dq (.p (eI (iAnd .u8 (byt s_0 (i_1 + 3)) 63))) [144] rfl (fun _ e _ q => one_op rfl (ok_convInt rfl rfl rfl rfl rfl rfl rfl (e _ _ rfl) (wrap_in hk74) q)) rfl (dR 3 rfl ?_)
          refine dE rfl (nx 1 rfl ?_)
          refine mG (gE (t := ⟨[(4, .p (eI (iOr .i64 (iOr .i64 (iOr .i64 (iShl .i64 (iAnd .u8 (byt s_0 i_1) 7) 18) (iShl .i64 (iAnd .u8 (byt s_0 (i_1 + 1)) 63) 12)) (iShl .i64 (iAnd .u8 (byt s_0 (i_1 + 2)) 63) 6)) (iAnd .u8 (byt s_0 (i_1 + 3)) 63)))), (5, .p (eI 4))], []⟩) rfl rfl) (nx 1 rfl ?_)
          exact mQ (oi h0) rfl (sub_tuple ⟨sr, sr, trivial⟩)
         exact nx 8 rfl (mQ (oi h0) rfl (sub_tuple ⟨sr, sr, trivial⟩))
        refine nx 4 rfl (fD [95, 96] h1 rfl (fun c47 h1 => ?_) fun c47 h1 => ?_)
        ·refine nx 4 rfl (fD [98, 99, 100] h1 rfl (fun c48 h1 => ?_) fun c48 h1 => ?_)
         ·refine nx 2 rfl (oA h1 rfl rfl fun hk49 h1 => ?_)
          refine nx 2 rfl (bd h1 fun r50 e51 h1 => ?_)
          refine oK (ref02_cont_ok s_0 (i_1 + 1) o93 o95 _ e51) rfl ⟨sr, sr, sr, sr, trivial⟩ Tryz.call108 rfl (nx 2 rfl ?_)
          refine fB [106, 107, 108] h1 rfl (fun c52 h1 => ?_) fun c52 h1 => ?_
          ·refine nx 2 rfl (oA h1 rfl rfl fun hk53 h1 => ?_)
           refine bd h1 fun r54 e55 h1 => oK (ref02_cont_ok s_0 (i_1 + 2) 128 191 _ e55) rfl ⟨sr, sr, sr, sr, trivial⟩ Tryz.call108 rfl (nx 2 rfl ?_)
           refine fB [112, 113, 114] h1 rfl (fun c56 h1 => ?_) fun c56 h1 => ?_
           ·refine nx 2 rfl (oA h1 rfl rfl fun hk57 h1 => ?_)
            refine bd h1 fun r58 e59 h1 => oK (ref02_cont_ok s_0 (i_1 + 3) 128 191 _ e59) rfl ⟨sr, sr, sr, sr, trivial⟩ Tryz.call108 rfl (nx 2 rfl ?_)
            exact eX _ (oi h1).symm (gE rfl rfl)
           exact nx 6 rfl (eX _ (oi h1).symm (gE rfl rfl))
          exact nx 12 rfl (eX _ (oi h1).symm (gE rfl rfl))
         exact nx 20 rfl (eX _ (oi h1).symm (gE rfl rfl))
        exact nx 24 rfl (eX _ (oi h1).symm (gE rfl rfl))
       refine nx 5 rfl (fD [93] h1 rfl (fun c45 h1 => ?_) fun c45 h1 => ?_)
       ·exact nx 4 rfl (eX _ (oi h1).symm (gE rfl rfl))
       exact nx 2 rfl (eX _ (oi h1).symm (gE rfl rfl))
      refine nx 5 rfl (fD [91] h1 rfl (fun c43 h1 => ?_) fun c43 h1 => ?_)
      ·exact nx 4 rfl (eX _ (oi h1).symm (gE rfl rfl))
      exact nx 2 rfl (eX _ (oi h1).symm (gE rfl rfl))
     refine nx 4 rfl (fD [52, 53] h1 rfl (fun c23 h1 => ?_) fun c23 h1 => ?_)
     ·refine nx 4 rfl (fD [55, 56, 57] h1 rfl (fun c24 h1 => ?_) fun c24 h1 => ?_)
      ·refine nx 2 rfl (oA h1 rfl rfl fun hk25 h1 => ?_)
       refine nx 2 rfl (bd h1 fun r26 e27 h1 => ?_)
       refine oK (ref02_cont_ok s_0 (i_1 + 1) o87 o89 _ e27) rfl ⟨sr, sr, sr, sr, trivial⟩ Tryz.call108 rfl (nx 2 rfl ?_)
       refine fB [63, 64, 65] h1 rfl (fun c28 h1 => ?_) fun c28 h1 => ?_
       ·refine nx 2 rfl (oA h1 rfl rfl fun hk29 h1 => ?_)
        refine bd h1 fun r30 e31 h1 => oK (ref02_cont_ok s_0 (i_1 + 2) 128 191 _ e31) rfl ⟨sr, sr, sr, sr, trivial⟩ Tryz.call108 rfl (nx 2 rfl ?_)
        exact eX _ (oi h1).symm (gE rfl rfl)
       exact nx 6 rfl (eX _ (oi h1).symm (gE rfl rfl))
      exact nx 14 rfl (eX _ (oi h1).symm (gE rfl rfl))
     exact nx 18 rfl (eX _ (oi h1).symm (gE rfl rfl))
    refine nx 5 rfl (fD [50] h1 rfl (fun c21 h1 => ?_) fun c21 h1 => ?_)
    ·exact nx 4 rfl (eX _ (oi h1).symm (gE rfl rfl))
    exact nx 2 rfl (eX _ (oi h1).symm (gE rfl rfl))
   refine nx 5 rfl (fD [48] h1 rfl (fun c19 h1 => ?_) fun c19 h1 => ?_)
   ·exact nx 4 rfl (eX _ (oi h1).symm (gE rfl rfl))
   exact nx 2 rfl (eX _ (oi h1).symm (gE rfl rfl))
  refine nx 4 rfl (fD [25, 26] h1 rfl (fun c7 h1 => ?_) fun c7 h1 => ?_)
  ·refine nx 4 rfl (fD [28, 29, 30] h1 rfl (fun c8 h1 => ?_) fun c8 h1 => ?_)
   ·refine nx 2 rfl (oA h1 rfl rfl fun hk9 h1 => ?_)
    refine bd h1 fun r10 e11 h1 => oK (ref02_cont_ok s_0 (i_1 + 1) 128 191 _ e11) rfl ⟨sr, sr, sr, sr, trivial⟩ Tryz.call108 rfl (nx 2 rfl ?_)
    exact eX _ (oi h1).symm (gE rfl rfl)
   exact nx 6 rfl (eX _ (oi h1).symm (gE rfl rfl))
  exact nx 10 rfl (eX _ (oi h1).symm (gE rfl rfl))
 refine nx 4 rfl (fD [10, 11] h1 rfl (fun c1 h1 => ?_) fun c1 h1 => ?_)
 ·exact nx 6 rfl (eX _ (oi h1).symm (gE rfl rfl))
 refine nx 2 rfl (oLs rfl ?_)
 exact nx 3 rfl (eX _ (oi h1).symm (gE rfl rfl))

def ref02_Valid_l1 (s_0 : Bytes) : Nat → Int → Option (Unit ⊕ Bool)
 | 0, _ => none
 | m + 1, i8 =>
 if i8 < (s_0.length : Int) then
  (ref02_Decode s_0 i8).bind fun r10 =>
  if r10.2 = 0 then
   some (.inr false)
  else
   ck (inR (i8 + r10.2)) <|
   ref02_Valid_l1 s_0 m (i8 + r10.2)
 else
  some (.inl ())

def ref02_Valid (n : Nat) (s_0 : Bytes) : Option Bool :=
 if 4096 < (s_0.length : Int) then
  some false
 else
  jn (ref02_Valid_l1 s_0 n 0) fun q15 =>
  some true

set_option maxHeartbeats 4000000 in
theorem ref02_Valid_ok (n : Nat) (s_0 : Bytes) (r : Bool) (h0 : ref02_Valid n s_0 = some r) : PCalls Tryz.prog 63 [eS s_0] (· = .p (eB r)) := by
 unfold ref02_Valid at h0
 refine pbodyA good Tryz.func63 rfl rfl rfl fun w0 => mP (fun v : Bool => .p (eB v)) ?_
 refine nx 8 rfl (oLs rfl ?_)
 refine nx 2 rfl (fD [8] h0 rfl (fun c1 h0 => ?_) fun c1 h0 => ?_)
 ·exact nx 6 rfl (mQ (oi h0) rfl (sr))
 refine nx 8 rfl ?_
 obtain ⟨o16, h1, hL0, hR0⟩ := jn_cut h0
 refine kEx 0 (fun v17 : Unit => o16 = .inl v17) (fun v17 => ⟨[], []⟩) (fun v17 hv => ?_) ?_
 ·have h0 := hL0 _ hv
  exact nx 6 rfl (mQ (oi h0) rfl (sr))
 refine lG (fun (q18 : Int) => ⟨[(0, .p (eS s_0)), (3, .p (eI q18))], []⟩) (fun m (q18 : Int) => ref02_Valid_l1 s_0 m q18) (fun _ => rfl) 0 h1 (gE rfl rfl) ?_
 rintro m i8 h1
 replace h1 : ref02_Valid_l1 s_0 (m + 1) i8 = some o16 := h1
 rw [ref02_Valid_l1] at h1
 refine nx 5 rfl (oLs rfl ?_)
 refine nx 2 rfl (fD [12] h1 rfl (fun c9 h1 => ?_) fun c9 h1 => ?_)
 ·refine nx 7 rfl (bd h1 fun r10 e11 h1 => ?_)
  refine oK (ref02_Decode_ok s_0 i8 _ e11) rfl ⟨sr, sr, trivial⟩ Tryz.call84 rfl (nx 12 rfl ?_)
  refine fD [20] h1 rfl (fun c12 h1 => ?_) fun c12 h1 => ?_
  ·exact nx 6 rfl (mQ (hR0 _ (oi h1).symm) rfl (sr))
  refine nx 5 rfl (oA h1 rfl rfl fun hk13 h1 => ?_)
  exact nx 2 rfl (eX (i8 + r10.2) h1 (gE rfl rfl))
 exact nx 2 rfl (eXi _ (oi h1).symm (gE rfl rfl))

def ref06_Key (n : Nat) (k_0 : TKey) : Option Bool :=
 if k_0.fKind = 1 then
  (
    if 0 ≤ k_0.fNum then
     if k_0.fNum ≤ 9007199254740992 then
      some (decide (k_0.fStr = ([] : Bytes)))
     else
      some false
    else
     some false
   : Option Bool).bind fun t4 =>
  some t4
 else
  if k_0.fKind = 2 then
   (
     if k_0.fNum = 0 then
      (ref02_Valid n k_0.fStr).bind fun r7 =>
      some r7
     else
      some false
    : Option Bool).bind fun t9 =>
   some t9
  else
   some (decide (k_0.fKind = 0 ∧ k_0.fNum = 0 ∧ k_0.fStr = ([] : Bytes)))

set_option maxHeartbeats 4000000 in
theorem ref06_Key_ok (n : Nat) (k_0 : TKey) (r : Bool) (h0 : ref06_Key n k_0 = some r) : PCalls Tryz.prog 29 [.agg (TKey.cs k_0)] (· = .p (eB r)) := by
 unfold ref06_Key at h0
 refine pbodyA good Tryz.func29 rfl rfl rfl fun w0 => mP (fun v : Bool => .p (eB v)) ?_
 refine nx 12 rfl (fD [5] h0 rfl (fun c1 h0 => ?_) fun c1 h0 => ?_)
 ·refine nx 2 rfl (bd h0 fun o12 h1 h0 => ?_)
  refine kN o12 (fun v13 => ⟨[(2, .p (eB v13))], []⟩) ?_ ?_
  ·exact nx 2 rfl (mQ (oi h0) rfl (sr))
  refine nx 5 rfl (fD [8, 9] h1 rfl (fun c2 h1 => ?_) fun c2 h1 => ?_)
  ·refine nx 5 rfl (fD [12, 13, 14] h1 rfl (fun c3 h1 => ?_) fun c3 h1 => ?_)
   ·refine nx 2 rfl (oS rfl rfl ?_)
    exact nx 3 rfl (eX _ (oi h1).symm (gE rfl rfl))
   exact nx 6 rfl (eX _ (oi h1).symm (gE rfl rfl))
  exact nx 11 rfl (eX _ (oi h1).symm (gE rfl rfl))
 refine nx 9 rfl (fD [21] h0 rfl (fun c5 h0 => ?_) fun c5 h0 => ?_)
 ·refine nx 2 rfl (bd h0 fun o14 h1 h0 => ?_)
  refine kN o14 (fun v15 => ⟨[(2, .p (eB v15))], []⟩) ?_ ?_
  ·exact nx 2 rfl (mQ (oi h0) rfl (sr))
  refine nx 5 rfl (fD [24, 25] h1 rfl (fun c6 h1 => ?_) fun c6 h1 => ?_)
  ·refine nx 2 rfl (bd h1 fun r7 e8 h1 => ?_)
   refine oK (ref02_Valid_ok _ k_0.fStr _ e8) rfl ⟨sr, trivial⟩ Tryz.call63 rfl (nx 3 rfl ?_)
   exact eX _ (oi h1).symm (gE rfl rfl)
  exact nx 6 rfl (eX _ (oi h1).symm (gE rfl rfl))
 refine nx 6 rfl (mO rfl (op_eqS (k_0.fKind = 0 ∧ k_0.fNum = 0 ∧ k_0.fStr = ([] : Bytes)) rfl rfl rfl rfl rfl rfl rfl (by kernel_rfl) rfl rfl (.inl ⟨rfl, rfl⟩) ?_))
 exact nx 3 rfl (mQ (oi h0) rfl (sr))

def ref06_Reserved_l1 (s_0 : Bytes) : Nat → Int → Option (Unit ⊕ Bool)
 | 0, _ => none
 | m + 1, i6 =>
 if i6 < (([([109, 111, 100, 117, 108, 101] : Bytes), ([100, 97, 116, 97] : Bytes), ([118, 97, 114] : Bytes), ([108, 111, 99, 97, 108] : Bytes), ([111, 117, 116, 112, 117, 116] : Bytes), ([101, 97, 99, 104] : Bytes), ([99, 111, 117, 110, 116] : Bytes), ([114, 101, 109, 111, 116, 101] : Bytes), ([112, 97, 116, 104] : Bytes), ([115, 101, 108, 102] : Bytes), ([99, 104, 97, 110, 103, 101] : Bytes)]).length : Int) then
  ck ((0 : Int) ≤ i6 ∧ i6 < (([([109, 111, 100, 117, 108, 101] : Bytes), ([100, 97, 116, 97] : Bytes), ([118, 97, 114] : Bytes), ([108, 111, 99, 97, 108] : Bytes), ([111, 117, 116, 112, 117, 116] : Bytes), ([101, 97, 99, 104] : Bytes), ([99, 111, 117, 110, 116] : Bytes), ([114, 101, 109, 111, 116, 101] : Bytes), ([112, 97, 116, 104] : Bytes), ([115, 101, 108, 102] : Bytes), ([99, 104, 97, 110, 103, 101] : Bytes)]).length : Int)) <|
  if lat ([([109, 111, 100, 117, 108, 101] : Bytes), ([100, 97, 116, 97] : Bytes), ([118, 97, 114] : Bytes), ([108, 111, 99, 97, 108] : Bytes), ([111, 117, 116, 112, 117, 116] : Bytes), ([101, 97, 99, 104] : Bytes), ([99, 111, 117, 110, 116] : Bytes), ([114, 101, 109, 111, 116, 101] : Bytes), ([112, 97, 116, 104] : Bytes), ([115, 101, 108, 102] : Bytes), ([99, 104, 97, 110, 103, 101] : Bytes)]) i6 = s_0 then
   some (.inr true)
  else
   ck (inR (i6 + 1)) <|
   ref06_Reserved_l1 s_0 m (i6 + 1)
 else
  some (.inl ())

def ref06_Reserved (n : Nat) (s_0 : Bytes) : Option Bool :=
 jn (ref06_Reserved_l1 s_0 n 0) fun q12 =>
 some false

set_option maxHeartbeats 4000000 in
theorem ref06_Reserved_ok (n : Nat) (s_0 : Bytes) (r : Bool) (h0 : ref06_Reserved n s_0 = some r) : PCalls Tryz.prog 30 [eS s_0] (· = .p (eB r)) := by
 unfold ref06_Reserved at h0
 refine pbodyA good Tryz.func30 rfl rfl rfl fun w0 => mP (fun v : Bool => .p (eB v)) ?_
 refine nx 6 rfl (mO rfl (op_bslice eS [([109, 111, 100, 117, 108, 101] : Bytes), ([100, 97, 116, 97] : Bytes), ([118, 97, 114] : Bytes), ([108, 111, 99, 97, 108] : Bytes), ([111, 117, 116, 112, 117, 116] : Bytes), ([101, 97, 99, 104] : Bytes), ([99, 111, 117, 110, 116] : Bytes), ([114, 101, 109, 111, 116, 101] : Bytes), ([112, 97, 116, 104] : Bytes), ([115, 101, 108, 102] : Bytes), ([99, 104, 97, 110, 103, 101] : Bytes)] rfl rfl rfl rfl rfl rfl rfl rfl rfl rfl rfl rfl rfl rfl ?_))
 refine nx 8 rfl ?_
 obtain ⟨o13, h1, hL0, hR0⟩ := jn_cut h0
 refine kEx 0 (fun v14 : Unit => o13 = .inl v14) (fun v14 => ⟨[], []⟩) (fun v14 hv => ?_) ?_
 ·have h0 := hL0 _ hv
  exact nx 6 rfl (mQ (oi h0) rfl (sr))
 refine lG (fun (q15 : Int) => ⟨[(0, .p (eS s_0)), (3, .p (eL eS ([([109, 111, 100, 117, 108, 101] : Bytes), ([100, 97, 116, 97] : Bytes), ([118, 97, 114] : Bytes), ([108, 111, 99, 97, 108] : Bytes), ([111, 117, 116, 112, 117, 116] : Bytes), ([101, 97, 99, 104] : Bytes), ([99, 111, 117, 110, 116] : Bytes), ([114, 101, 109, 111, 116, 101] : Bytes), ([112, 97, 116, 104] : Bytes), ([115, 101, 108, 102] : Bytes), ([99, 104, 97, 110, 103, 101] : Bytes)]))), (4, .p (eI q15))], []⟩) (fun m (q15 : Int) => ref06_Reserved_l1 s_0 m q15) (fun _ => rfl) 0 h1 (gE rfl rfl) ?_
 rintro m i6 h1
 replace h1 : ref06_Reserved_l1 s_0 (m + 1) i6 = some o13 := h1
 rw [ref06_Reserved_l1] at h1
 refine nx 5 rfl (oLl (f := eS) rfl rfl ?_)
 refine nx 2 rfl (fD [9] h1 rfl (fun c7 h1 => ?_) fun c7 h1 => ?_)
 ·refine nx 8 rfl (oE h1 (fun _ => rfl) rfl rfl (fun _ => rfl) fun hk8 h1 => ?_)
  refine nx 2 rfl (oS rfl rfl ?_)
  refine nx 1 rfl (fD [17] h1 rfl (fun c9 h1 => ?_) fun c9 h1 => ?_)
  ·exact nx 6 rfl (mQ (hR0 _ (oi h1).symm) rfl (sr))
  refine nx 4 rfl (oA h1 rfl rfl fun hk10 h1 => ?_)
  exact nx 2 rfl (eX (i6 + 1) h1 (gE rfl rfl))
 exact nx 2 rfl (eXi _ (oi h1).symm (gE rfl rfl))

def ref06_Check_l1 (n : Nat) (a_0 : TAddress) : Nat → Int → Option (Unit ⊕ Int)
 | 0, _ => none
 | m + 1, i13 =>
 if i13 < (a_0.fModule.length : Int) then
  ck ((0 : Int) ≤ i13 ∧ i13 < (a_0.fModule.length : Int)) <|
  (ref06_Identifier n ((lat a_0.fModule i13).fName)).bind fun r16 =>
  if (!r16) = true then
   some (.inr 7)
  else
   ck ((0 : Int) ≤ i13 ∧ i13 < (a_0.fModule.length : Int)) <|
   (ref06_Key n ((lat a_0.fModule i13).fKey)).bind fun r20 =>
   if (!r20) = true then
    some (.inr 1)
   else
    ck (inR (i13 + 1)) <|
    ref06_Check_l1 n a_0 m (i13 + 1)
 else
  some (.inl ())

def ref06_Check (n : Nat) (a_0 : TAddress) : Option Int :=
 if 16 < (a_0.fModule.length : Int) then
  some 4
 else
  jn (ref06_Check_l1 n a_0 n 0) fun q38 =>
  (
    (ref06_Identifier n a_0.fType).bind fun r25 =>
    if (!r25) = true then
     some true
    else
     (ref06_Reserved n a_0.fType).bind fun r28 =>
     if r28 = true then
      some true
     else
      (ref06_Identifier n a_0.fName).bind fun r31 =>
      some (!r31)
   : Option Bool).bind fun t33 =>
  if t33 = true then
   some 7
  else
   (ref06_Key n a_0.fKey).bind fun r35 =>
   if (!r35) = true then
    some 1
   else
    some 0

set_option maxHeartbeats 4000000 in
theorem ref06_Check_ok (n : Nat) (a_0 : TAddress) (r : Int) (h0 : ref06_Check n a_0 = some r) : PCalls Tryz.prog 10 [.agg (TAddress.cs a_0)] (· = .p (eI r)) := by
 unfold ref06_Check at h0
 refine pbodyA good Tryz.func10 rfl rfl rfl fun w0 => mP (fun v : Int => .p (eI v)) ?_
 refine nx 10 rfl (oLl (f := eTModuleStep) rfl rfl ?_)
 refine nx 2 rfl (fD [7] h0 rfl (fun c1 h0 => ?_) fun c1 h0 => ?_)
 ·exact nx 6 rfl (mQ (oi h0) rfl (sr))
 refine nx 8 rfl ?_
 obtain ⟨o40, h1, hL0, hR0⟩ := jn_cut h0
 refine kEx 0 (fun v41 : Unit => o40 = .inl v41) (fun v41 => ⟨[(1, .ptr 1 0)], [(1, [.p (eL eTModuleStep a_0.fModule), .p (eB a_0.fData), .p (eS a_0.fType), .p (eS a_0.fName), .p (eI a_0.fKey.fKind), .p (eI a_0.fKey.fNum), .p (eS a_0.fKey.fStr)])]⟩) (fun v41 hv => ?_) ?_
 ·have h0 := hL0 _ hv
  refine nx 3 rfl (bd h0 fun o42 h1 h0 => ?_)
  refine kN o42 (fun v43 => ⟨[(1, .ptr 1 0), (45, .p (eB v43))], [(1, [.p (eL eTModuleStep a_0.fModule), .p (eB a_0.fData), .p (eS a_0.fType), .p (eS a_0.fName), .p (eI a_0.fKey.fKind), .p (eI a_0.fKey.fNum), .p (eS a_0.fKey.fStr)])]⟩) ?_ ?_
  ·refine nx 1 rfl (fB [45] h0 rfl (fun c34 h0 => ?_) fun c34 h0 => ?_)
   ·exact nx 6 rfl (mQ (oi h0) rfl (sr))
   refine nx 7 rfl (bd h0 fun r35 e36 h0 => ?_)
   refine oK (ref06_Key_ok _ a_0.fKey _ e36) rfl ⟨sr, trivial⟩ Tryz.call29 rfl (nx 2 rfl ?_)
   refine fB [49] h0 rfl (fun c37 h0 => ?_) fun c37 h0 => ?_
   ·exact nx 6 rfl (mQ (oi h0) rfl (sr))
   exact nx 7 rfl (mQ (oi h0) rfl (sr))
  refine nx 3 rfl (bd h1 fun r25 e26 h1 => ?_)
  refine oK (ref06_Identifier_ok _ a_0.fType _ e26) rfl ⟨sr, trivial⟩ Tryz.call28 rfl (nx 2 rfl ?_)
  refine fB [34, 35] h1 rfl (fun c27 h1 => ?_) fun c27 h1 => ?_
  ·exact nx 11 rfl (eX _ (oi h1).symm (gE rfl rfl))
  refine nx 2 rfl (bd h1 fun r28 e29 h1 => ?_)
  refine oK (ref06_Reserved_ok _ a_0.fType _ e29) rfl ⟨sr, trivial⟩ Tryz.call30 rfl (nx 2 rfl ?_)
  refine fB [38, 39, 40] h1 rfl (fun c30 h1 => ?_) fun c30 h1 => ?_
  ·exact nx 6 rfl (eX _ (oi h1).symm (gE rfl rfl))
  refine nx 2 rfl (bd h1 fun r31 e32 h1 => ?_)
  refine oK (ref06_Identifier_ok _ a_0.fName _ e32) rfl ⟨sr, trivial⟩ Tryz.call28 rfl (nx 3 rfl ?_)
  exact eX _ (oi h1).symm (gE rfl rfl)
 refine lG (fun (q44 : Int) => ⟨[(1, .ptr 1 0), (3, .p (eI q44))], [(1, [.p (eL eTModuleStep a_0.fModule), .p (eB a_0.fData), .p (eS a_0.fType), .p (eS a_0.fName), .p (eI a_0.fKey.fKind), .p (eI a_0.fKey.fNum), .p (eS a_0.fKey.fStr)])]⟩) (fun m (q44 : Int) => ref06_Check_l1 n a_0 m q44) (fun _ => rfl) 0 h1 (gE rfl rfl) ?_
 rintro m i13 h1
 replace h1 : ref06_Check_l1 n a_0 (m + 1) i13 = some o40 := h1
 rw [ref06_Check_l1] at h1
 refine nx 6 rfl (oLl (f := eTModuleStep) rfl rfl ?_)
 refine nx 2 rfl (fD [12] h1 rfl (fun c14 h1 => ?_) fun c14 h1 => ?_)
 ·refine nx 10 rfl (oE h1 TModuleStep.cells_eq rfl rfl (fun _ => rfl) fun hk15 h1 => ?_)
  refine nx 2 rfl (bd h1 fun r16 e17 h1 => ?_)
  refine oK (ref06_Identifier_ok _ ((lat a_0.fModule i13).fName) _ e17) rfl ⟨sr, trivial⟩ Tryz.call28 rfl (nx 2 rfl ?_)
  refine fB [22] h1 rfl (fun c18 h1 => ?_) fun c18 h1 => ?_
  ·exact nx 6 rfl (mQ (hR0 _ (oi h1).symm) rfl (sr))
  refine nx 7 rfl (oE h1 TModuleStep.cells_eq rfl rfl (fun _ => rfl) fun hk19 h1 => ?_)
  refine nx 2 rfl (bd h1 fun r20 e21 h1 => ?_)
  refine oK (ref06_Key_ok _ ((lat a_0.fModule i13).fKey) _ e21) rfl ⟨sr, trivial⟩ Tryz.call29 rfl (nx 2 rfl ?_)
  refine fB [30] h1 rfl (fun c22 h1 => ?_) fun c22 h1 => ?_
  ·exact nx 6 rfl (mQ (hR0 _ (oi h1).symm) rfl (sr))
  refine nx 4 rfl (oA h1 rfl rfl fun hk23 h1 => ?_)
  exact nx 2 rfl (eX (i13 + 1) h1 (gE rfl rfl))
 exact nx 2 rfl (eXi _ (oi h1).symm (gE rfl rfl))

def ref01_Format : Nat → Int → Option Bytes
 | 0, _ => none
 | n + 1, n_0 =>
 (
   if 0 ≤ n_0 then
    some (decide (n_0 ≤ 9))
   else
    some false
  : Option Bool).bind fun t2 =>
 if t2 = true then
  ck (inR (48 + n_0)) <|
  ck ((0 : Int) ≤ IntKind.wrap .u8 (48 + n_0) ∧ IntKind.wrap .u8 (48 + n_0) < 256) <|
  some [u8 (IntKind.wrap .u8 (48 + n_0))]
 else
  (
    if n_0 < 0 then
     some (decide ((-10) < n_0))
    else
     some false
   : Option Bool).bind fun t7 =>
  if t7 = true then
   ck (inR (0 - n_0)) <|
   ((ref01_Format n) (0 - n_0)).bind fun r10 =>
   ck (([45] : Bytes).length + r10.length ≤ 9223372036854775807) <|
   some (([45] : Bytes) ++ r10)
  else
   if n_0 < 0 then
    ck ((10 : Int) ≠ 0) <|
    ((ref01_Format n) (IntKind.wrap .i64 (n_0.tdiv 10))).bind fun r15 =>
    ck ((10 : Int) ≠ 0) <|
    ck (inR (0 - (n_0.tmod 10))) <|
    ((ref01_Format n) (0 - (n_0.tmod 10))).bind fun r19 =>
    ck (r15.length + r19.length ≤ 9223372036854775807) <|
    some (r15 ++ r19)
   else
    ck ((10 : Int) ≠ 0) <|
    ((ref01_Format n) (IntKind.wrap .i64 (n_0.tdiv 10))).bind fun r23 =>
    ck ((10 : Int) ≠ 0) <|
    ((ref01_Format n) (n_0.tmod 10)).bind fun r26 =>
    ck (r23.length + r26.length ≤ 9223372036854775807) <|
    some (r23 ++ r26)

set_option maxHeartbeats 4000000 in
theorem ref01_Format_ok (n : Nat) : ∀ (n_0 : Int) (r : Bytes), ref01_Format n n_0 = some r → PCalls Tryz.prog 36 [eI n_0] (· = .p (eS r)) := by
 induction n with
 | zero => intro n_0 r h0; cases h0
 | succ n ih =>
 have ih_ref01_Format_ok := ih
 intro n_0 r h0
 rw [ref01_Format] at h0
 refine pbodyA good Tryz.func36 rfl rfl rfl fun w0 => mP (fun v : Bytes => .p (eS v)) ?_
 refine nx 6 rfl (bd h0 fun o31 h1 h0 => ?_)
 refine kN o31 (fun v32 => ⟨[(0, .p (eI n_0)), (8, .p (eB v32))], []⟩) ?_ ?_
 ·refine nx 1 rfl (fB [8] h0 rfl (fun c3 h0 => ?_) fun c3 h0 => ?_)
  ·refine nx 4 rfl (oA h0 rfl rfl fun hk4 h0 => ?_)
   refine nx 1 rfl (cc' h0 fun hk5 h0 => ?_)
   refine mO rfl (op_bslice eU [u8 (IntKind.wrap .u8 (48 + n_0))] rfl rfl rfl rfl rfl rfl rfl rfl rfl rfl rfl rfl rfl (congr (congrArg List.cons (u8_of hk5)) rfl) ?_)
   refine mO rfl (op_convBS [u8 (IntKind.wrap .u8 (48 + n_0))] rfl rfl rfl rfl rfl rfl rfl rfl rfl rfl rfl ?_)
   exact nx 3 rfl (mQ (oi h0) rfl (sr))
  refine nx 4 rfl (bd h0 fun o33 h1 h0 => ?_)
  refine kN o33 (fun v34 => ⟨[(0, .p (eI n_0)), (19, .p (eB v34))], []⟩) ?_ ?_
  ·refine nx 1 rfl (fB [19] h0 rfl (fun c8 h0 => ?_) fun c8 h0 => ?_)
   ·refine nx 4 rfl (cc' h0 fun hk9 h0 => ?_)
    refine mO rfl (ok_neg rfl rfl rfl rfl hk9 ?_)
    refine bd h0 fun r10 e11 h0 => oK (ih_ref01_Format_ok (0 - n_0) _ e11) rfl ⟨sr, trivial⟩ Tryz.call36 rfl (oC h0 rfl fun hk12 h0 => ?_)
    exact nx 3 rfl (mQ (oi h0) rfl (sr))
   refine nx 8 rfl (fD [25] h0 rfl (fun c13 h0 => ?_) fun c13 h0 => ?_)
   ·refine nx 4 rfl (cc' h0 fun hk14 h0 => ?_)
    refine mO rfl (ok_dv rfl rfl rfl rfl rfl rfl hk14 ?_)
    refine bd h0 fun r15 e16 h0 => oK (ih_ref01_Format_ok (IntKind.wrap .i64 (n_0.tdiv 10)) _ e16) rfl ⟨sr, trivial⟩ Tryz.call36 rfl (nx 1 rfl ?_)
    refine cc' h0 fun hk17 h0 => mO rfl (ok_dv rfl rfl rfl rfl rfl rfl hk17 ?_)
    refine cc' h0 fun hk18 h0 => mO rfl (ok_neg rfl rfl rfl rfl hk18 ?_)
    refine bd h0 fun r19 e20 h0 => oK (ih_ref01_Format_ok (0 - (n_0.tmod 10)) _ e20) rfl ⟨sr, trivial⟩ Tryz.call36 rfl (oC h0 rfl fun hk21 h0 => ?_)
    exact nx 3 rfl (mQ (oi h0) rfl (sr))
   refine nx 5 rfl (cc' h0 fun hk22 h0 => ?_)
   refine mO rfl (ok_dv rfl rfl rfl rfl rfl rfl hk22 ?_)
   refine bd h0 fun r23 e24 h0 => oK (ih_ref01_Format_ok (IntKind.wrap .i64 (n_0.tdiv 10)) _ e24) rfl ⟨sr, trivial⟩ Tryz.call36 rfl (nx 1 rfl ?_)
   refine cc' h0 fun hk25 h0 => mO rfl (ok_dv rfl rfl rfl rfl rfl rfl hk25 ?_)
   refine bd h0 fun r26 e27 h0 => oK (ih_ref01_Format_ok (n_0.tmod 10) _ e27) rfl ⟨sr, trivial⟩ Tryz.call36 rfl (oC h0 rfl fun hk28 h0 => ?_)
   exact nx 3 rfl (mQ (oi h0) rfl (sr))
  refine nx 4 rfl (fD [15, 16] h1 rfl (fun c6 h1 => ?_) fun c6 h1 => ?_)
  ·exact nx 4 rfl (eX _ (oi h1).symm (gE rfl rfl))
  exact nx 4 rfl (eX _ (oi h1).symm (gE rfl rfl))
 refine nx 4 rfl (fD [4, 5] h1 rfl (fun c1 h1 => ?_) fun c1 h1 => ?_)
 ·exact nx 4 rfl (eX _ (oi h1).symm (gE rfl rfl))
 exact nx 4 rfl (eX _ (oi h1).symm (gE rfl rfl))

def ref02_digits : Nat → Int → Option Bytes
 | 0, _ => none
 | n + 1, c_0 =>
 ck ((16 : Int) ≠ 0) <|
 ck ((16 : Int) ≠ 0) <|
 ck (inR ((c_0.tmod 16) + 1)) <|
 ck ((0 : Int) ≤ c_0.tmod 16 ∧ c_0.tmod 16 ≤ (c_0.tmod 16) + 1 ∧ (c_0.tmod 16) + 1 ≤ (([48, 49, 50, 51, 52, 53, 54, 55, 56, 57, 97, 98, 99, 100, 101, 102] : Bytes).length : Int)) <|
 if c_0 < 16 then
  some (sub ([48, 49, 50, 51, 52, 53, 54, 55, 56, 57, 97, 98, 99, 100, 101, 102] : Bytes) (c_0.tmod 16) ((c_0.tmod 16) + 1))
 else
  ck ((16 : Int) ≠ 0) <|
  ((ref02_digits n) (IntKind.wrap .i64 (c_0.tdiv 16))).bind fun r7 =>
  ck (r7.length + (sub ([48, 49, 50, 51, 52, 53, 54, 55, 56, 57, 97, 98, 99, 100, 101, 102] : Bytes) (c_0.tmod 16) ((c_0.tmod 16) + 1)).length ≤ 9223372036854775807) <|
  some (r7 ++ (sub ([48, 49, 50, 51, 52, 53, 54, 55, 56, 57, 97, 98, 99, 100, 101, 102] : Bytes) (c_0.tmod 16) ((c_0.tmod 16) + 1)))

set_option maxHeartbeats 4000000 in
theorem ref02_digits_ok (n : Nat) : ∀ (c_0 : Int) (r : Bytes), ref02_digits n c_0 = some r → PCalls Tryz.prog 88 [eI c_0] (· = .p (eS r)) := by
 induction n with
 | zero => intro c_0 r h0; cases h0
 | succ n ih =>
 have ih_ref02_digits_ok := ih
 intro c_0 r h0
 rw [ref02_digits] at h0
 refine pbodyA good Tryz.func88 rfl rfl rfl fun w0 => mP (fun v : Bytes => .p (eS v)) ?_
 refine nx 7 rfl (cc' h0 fun hk1 h0 => ?_)
 refine mO rfl (ok_dv rfl rfl rfl rfl rfl rfl hk1 ?_)
 refine nx 1 rfl (cc' h0 fun hk2 h0 => ?_)
 refine mO rfl (ok_dv rfl rfl rfl rfl rfl rfl hk2 ?_)
 refine oA h0 rfl rfl fun hk3 h0 => oP h0 rfl rfl rfl fun hk4 h0 => nx 8 rfl (fD [11] h0 rfl (fun c5 h0 => ?_) fun c5 h0 => ?_)
 ·exact nx 7 rfl (mQ (oi h0) rfl (sr))
 refine nx 5 rfl (cc' h0 fun hk6 h0 => ?_)
 refine mO rfl (ok_dv rfl rfl rfl rfl rfl rfl hk6 ?_)
 refine bd h0 fun r7 e8 h0 => oK (ih_ref02_digits_ok (IntKind.wrap .i64 (c_0.tdiv 16)) _ e8) rfl ⟨sr, trivial⟩ Tryz.call88 rfl (nx 1 rfl ?_)
 exact oC h0 rfl fun hk9 h0 => nx 3 rfl (mQ (oi h0) rfl (sr))

def ref02_escaped (n : Nat) (b_0 : Int) : Option Bytes :=
 if b_0 = 10 then
  some ([92, 110] : Bytes)
 else
  if b_0 = 13 then
   some ([92, 114] : Bytes)
  else
   if b_0 = 9 then
    some ([92, 116] : Bytes)
   else
    if b_0 = 34 then
     some ([92, 34] : Bytes)
    else
     if b_0 = 92 then
      some ([92, 92] : Bytes)
     else
      (
        if b_0 < 32 then
         some true
        else
         some (decide (b_0 = 127))
       : Option Bool).bind fun t7 =>
      if t7 = true then
       ck (inR (b_0)) <|
       (ref02_digits n b_0).bind fun r10 =>
       ck (([92, 117, 123] : Bytes).length + r10.length ≤ 9223372036854775807) <|
       ck ((([92, 117, 123] : Bytes) ++ r10).length + ([125] : Bytes).length ≤ 9223372036854775807) <|
       some ((([92, 117, 123] : Bytes) ++ r10) ++ ([125] : Bytes))
      else
       ck ((0 : Int) ≤ b_0 ∧ b_0 < 256) <|
       some [u8 b_0]

set_option maxHeartbeats 4000000 in
theorem ref02_escaped_ok (n : Nat) (b_0 : Int) (r : Bytes) (h0 : ref02_escaped n b_0 = some r) : PCalls Tryz.prog 68 [eK .u8 b_0] (· = .p (eS r)) := by
 unfold ref02_escaped at h0
 refine pbodyA good Tryz.func68 rfl rfl rfl fun w0 => mP (fun v : Bytes => .p (eS v)) ?_
 refine nx 15 rfl (fD [4, 5] h0 rfl (fun c1 h0 => ?_) fun c1 h0 => ?_)
 ·exact nx 6 rfl (mQ (oi h0) rfl (sr))
 refine nx 6 rfl (fD [6, 7] h0 rfl (fun c2 h0 => ?_) fun c2 h0 => ?_)
 ·exact nx 6 rfl (mQ (oi h0) rfl (sr))
 refine nx 6 rfl (fD [8, 9] h0 rfl (fun c3 h0 => ?_) fun c3 h0 => ?_)
 ·exact nx 6 rfl (mQ (oi h0) rfl (sr))
 refine nx 6 rfl (fD [10, 11] h0 rfl (fun c4 h0 => ?_) fun c4 h0 => ?_)
 ·exact nx 6 rfl (mQ (oi h0) rfl (sr))
 refine nx 6 rfl (fD [12, 13] h0 rfl (fun c5 h0 => ?_) fun c5 h0 => ?_)
 ·exact nx 6 rfl (mQ (oi h0) rfl (sr))
 refine nx 4 rfl (bd h0 fun o16 h1 h0 => ?_)
 refine kN o16 (fun v17 => ⟨[(0, .p (eK .u8 b_0)), (19, .p (eB v17))], []⟩) ?_ ?_
 ·refine nx 1 rfl (fB [19] h0 rfl (fun c8 h0 => ?_) fun c8 h0 => ?_)
  ·refine nx 4 rfl (cc' h0 fun hk9 h0 => ?_)
   refine mO rfl (ok_convInt rfl rfl rfl rfl rfl rfl rfl rfl (wrap_in hk9) ?_)
   refine bd h0 fun r10 e11 h0 => oK (ref02_digits_ok _ b_0 _ e11) rfl ⟨sr, trivial⟩ Tryz.call88 rfl (oC h0 rfl fun hk12 h0 => ?_)
   exact oC h0 rfl fun hk13 h0 => nx 3 rfl (mQ (oi h0) rfl (sr))
  refine nx 5 rfl (cc' h0 fun hk14 h0 => ?_)
  refine mO rfl (op_bslice eU [u8 b_0] rfl rfl rfl rfl rfl rfl rfl rfl rfl rfl rfl rfl rfl (congr (congrArg List.cons (u8_of hk14)) rfl) ?_)
  refine mO rfl (op_convBS [u8 b_0] rfl rfl rfl rfl rfl rfl rfl rfl rfl rfl rfl ?_)
  exact nx 3 rfl (mQ (oi h0) rfl (sr))
 refine nx 4 rfl (fD [15, 16] h1 rfl (fun c6 h1 => ?_) fun c6 h1 => ?_)
 ·exact nx 4 rfl (eX _ (oi h1).symm (gE rfl rfl))
 exact nx 4 rfl (eX _ (oi h1).symm (gE rfl rfl))

def ref02_Quote_l1 (n : Nat) (s_0 : Bytes) : Nat → Bytes → Int → Option Bytes
 | 0, _, _ => none
 | m + 1, out9, i10 =>
 if i10 < (s_0.length : Int) then
  ck ((0 : Int) ≤ i10 ∧ i10 < (s_0.length : Int)) <|
  (ref02_escaped n (byt s_0 i10)).bind fun r13 =>
  ck (out9.length + r13.length ≤ 9223372036854775807) <|
  ck (inR (i10 + 1)) <|
  ref02_Quote_l1 n s_0 m (out9 ++ r13) (i10 + 1)
 else
  some out9

def ref02_Quote (n : Nat) (s_0 : Bytes) : Option Bytes :=
 (ref02_Quote_l1 n s_0 n ([34] : Bytes) 0).bind fun out19 =>
 ck (out19.length + ([34] : Bytes).length ≤ 9223372036854775807) <|
 some (out19 ++ ([34] : Bytes))

set_option maxHeartbeats 4000000 in
theorem ref02_Quote_ok (n : Nat) (s_0 : Bytes) (r : Bytes) (h0 : ref02_Quote n s_0 = some r) : PCalls Tryz.prog 37 [eS s_0] (· = .p (eS r)) := by
 unfold ref02_Quote at h0
 refine pbodyA good Tryz.func37 rfl rfl rfl fun w0 => mP (fun v : Bytes => .p (eS v)) ?_
 refine nx 14 rfl (bd h0 fun o22 h1 h0 => ?_)
 refine kE 0 o22 (fun v23 => ⟨[(3, .p (eS v23))], []⟩) ?_ ?_
 ·refine nx 4 rfl (oC h0 rfl fun hk20 h0 => ?_)
  exact nx 3 rfl (mQ (oi h0) rfl (sr))
 refine lG (fun (q24 : Bytes × Int) => ⟨[(0, .p (eS s_0)), (3, .p (eS q24.1)), (4, .p (eI q24.2))], []⟩) (fun m (q24 : Bytes × Int) => ref02_Quote_l1 n s_0 m q24.1 q24.2) (fun _ => rfl) (([34] : Bytes), 0) h1 (gE rfl rfl) ?_
 rintro m ⟨out9, i10⟩ h1
 replace h1 : ref02_Quote_l1 n s_0 (m + 1) out9 i10 = some o22 := h1
 rw [ref02_Quote_l1] at h1
 refine nx 5 rfl (oLs rfl ?_)
 refine nx 2 rfl (fD [8] h1 rfl (fun c11 h1 => ?_) fun c11 h1 => ?_)
 ·refine nx 8 rfl (oI h1 rfl fun hk12 h1 => ?_)
  refine bd h1 fun r13 e14 h1 => oK (ref02_escaped_ok _ (byt s_0 i10) _ e14) rfl ⟨sr, trivial⟩ Tryz.call68 rfl (oC h1 rfl fun hk15 h1 => ?_)
  refine nx 4 rfl (oA h1 rfl rfl fun hk16 h1 => ?_)
  exact nx 2 rfl (eX (out9 ++ r13, i10 + 1) h1 (gE rfl rfl))
 exact nx 2 rfl (eXi _ (oi h1).symm (gE rfl rfl))

def ref06_FormatKey (n : Nat) (k_0 : TKey) : Option Bytes :=
 (
   (ref06_Key n k_0).bind fun r1 =>
   if (!r1) = true then
    some true
   else
    some (decide (k_0.fKind = 0))
  : Option Bool).bind fun t4 =>
 if t4 = true then
  some ([] : Bytes)
 else
  if k_0.fKind = 1 then
   (ref01_Format n k_0.fNum).bind fun r7 =>
   ck (([91] : Bytes).length + r7.length ≤ 9223372036854775807) <|
   ck ((([91] : Bytes) ++ r7).length + ([93] : Bytes).length ≤ 9223372036854775807) <|
   some ((([91] : Bytes) ++ r7) ++ ([93] : Bytes))
  else
   (ref02_Quote n k_0.fStr).bind fun r11 =>
   ck (([91] : Bytes).length + r11.length ≤ 9223372036854775807) <|
   ck ((([91] : Bytes) ++ r11).length + ([93] : Bytes).length ≤ 9223372036854775807) <|
   some ((([91] : Bytes) ++ r11) ++ ([93] : Bytes))

set_option maxHeartbeats 4000000 in
theorem ref06_FormatKey_ok (n : Nat) (k_0 : TKey) (r : Bytes) (h0 : ref06_FormatKey n k_0 = some r) : PCalls Tryz.prog 14 [.agg (TKey.cs k_0)] (· = .p (eS r)) := by
 unfold ref06_FormatKey at h0
 refine pbodyA good Tryz.func14 rfl rfl rfl fun w0 => mP (fun v : Bytes => .p (eS v)) ?_
 refine nx 7 rfl (bd h0 fun o16 h1 h0 => ?_)
 refine kN o16 (fun v17 => ⟨[(1, .ptr 1 0), (10, .p (eB v17))], [(1, [.p (eI k_0.fKind), .p (eI k_0.fNum), .p (eS k_0.fStr)])]⟩) ?_ ?_
 ·refine nx 1 rfl (fB [10] h0 rfl (fun c5 h0 => ?_) fun c5 h0 => ?_)
  ·exact nx 6 rfl (mQ (oi h0) rfl (sr))
  refine nx 9 rfl (fD [13] h0 rfl (fun c6 h0 => ?_) fun c6 h0 => ?_)
  ·refine nx 5 rfl (bd h0 fun r7 e8 h0 => ?_)
   refine oK (ref01_Format_ok _ k_0.fNum _ e8) rfl ⟨sr, trivial⟩ Tryz.call36 rfl (oC h0 rfl fun hk9 h0 => ?_)
   exact oC h0 rfl fun hk10 h0 => nx 3 rfl (mQ (oi h0) rfl (sr))
  refine nx 6 rfl (bd h0 fun r11 e12 h0 => ?_)
  refine oK (ref02_Quote_ok _ k_0.fStr _ e12) rfl ⟨sr, trivial⟩ Tryz.call37 rfl (oC h0 rfl fun hk13 h0 => ?_)
  exact oC h0 rfl fun hk14 h0 => nx 3 rfl (mQ (oi h0) rfl (sr))
 refine nx 2 rfl (bd h1 fun r1 e2 h1 => ?_)
 refine oK (ref06_Key_ok _ k_0 _ e2) rfl ⟨sr, trivial⟩ Tryz.call29 rfl (nx 2 rfl ?_)
 refine fB [5, 6] h1 rfl (fun c3 h1 => ?_) fun c3 h1 => ?_
 ·exact nx 5 rfl (eX _ (oi h1).symm (gE rfl rfl))
 exact nx 5 rfl (eX _ (oi h1).symm (gE rfl rfl))

def ref06_Steps_l1 (n : Nat) (l_0 : List TModuleStep) : Nat → Bytes → Int → Option Bytes
 | 0, _, _ => none
 | m + 1, s13, i14 =>
 if i14 < (l_0.length : Int) then
  ck (s13.length + ([109, 111, 100, 117, 108, 101, 46] : Bytes).length ≤ 9223372036854775807) <|
  ck ((0 : Int) ≤ i14 ∧ i14 < (l_0.length : Int)) <|
  ck ((s13 ++ ([109, 111, 100, 117, 108, 101, 46] : Bytes)).length + ((lat l_0 i14).fName).length ≤ 9223372036854775807) <|
  ck ((0 : Int) ≤ i14 ∧ i14 < (l_0.length : Int)) <|
  (ref06_FormatKey n ((lat l_0 i14).fKey)).bind fun r20 =>
  ck (((s13 ++ ([109, 111, 100, 117, 108, 101, 46] : Bytes)) ++ ((lat l_0 i14).fName)).length + r20.length ≤ 9223372036854775807) <|
  ck ((((s13 ++ ([109, 111, 100, 117, 108, 101, 46] : Bytes)) ++ ((lat l_0 i14).fName)) ++ r20).length + ([46] : Bytes).length ≤ 9223372036854775807) <|
  ck (inR (i14 + 1)) <|
  ref06_Steps_l1 n l_0 m ((((s13 ++ ([109, 111, 100, 117, 108, 101, 46] : Bytes)) ++ ((lat l_0 i14).fName)) ++ r20) ++ ([46] : Bytes)) (i14 + 1)
 else
  some s13

def ref06_Steps (n : Nat) (l_0 : List TModuleStep) : Option Bytes :=
 (ref06_Steps_l1 n l_0 n ([] : Bytes) 0).bind fun s27 =>
 some s27

set_option maxHeartbeats 4000000 in
theorem ref06_Steps_ok (n : Nat) (l_0 : List TModuleStep) (r : Bytes) (h0 : ref06_Steps n l_0 = some r) : PCalls Tryz.prog 33 [eL eTModuleStep l_0] (· = .p (eS r)) := by
 unfold ref06_Steps at h0
 refine pbodyA good Tryz.func33 rfl rfl rfl fun w0 => mP (fun v : Bytes => .p (eS v)) ?_
 refine nx 14 rfl (bd h0 fun o29 h1 h0 => ?_)
 refine kE 0 o29 (fun v30 => ⟨[(3, .p (eS v30))], []⟩) ?_ ?_
 ·exact nx 7 rfl (mQ (oi h0) rfl (sr))
 refine lG (fun (q31 : Bytes × Int) => ⟨[(0, .p (eL eTModuleStep l_0)), (3, .p (eS q31.1)), (4, .p (eI q31.2))], []⟩) (fun m (q31 : Bytes × Int) => ref06_Steps_l1 n l_0 m q31.1 q31.2) (fun _ => rfl) (([] : Bytes), 0) h1 (gE rfl rfl) ?_
 rintro m ⟨s13, i14⟩ h1
 replace h1 : ref06_Steps_l1 n l_0 (m + 1) s13 i14 = some o29 := h1
 rw [ref06_Steps_l1] at h1
 refine nx 5 rfl (oLl (f := eTModuleStep) rfl rfl ?_)
 refine nx 2 rfl (fD [8] h1 rfl (fun c15 h1 => ?_) fun c15 h1 => ?_)
 ·refine nx 4 rfl (cc' h1 fun hk16 h1 => ?_)
  refine cc' h1 fun hk17 h1 => cc' h1 fun hk18 h1 => cc' h1 fun hk19 h1 => bd h1 fun r20 e21 h1 => cc' h1 fun hk22 h1 => cc' h1 fun hk23 h1 => mG (gE (t := ⟨[(0, .p (eL eTModuleStep l_0)), (3, .p (eS s13)), (4, .p (eI i14))], []⟩) rfl rfl) (mS ⟨1, [16], (fun _ => none), (by2 [(0, .p (eL eTModuleStep l_0)), (3, .p (eS s13)), (4, .p (eI i14))] [(0, .p (eL eTModuleStep l_0)), (4, .p (eI i14))]), (fun _ => [])⟩ rfl rfl rfl ⟨rfl, rfl, rfl, trivial⟩ (lt1 ⟨rfl, rfl, trivial⟩) rfl rfl rfl rfl ?_)
  refine ds_pure (fun _ => .p (eS s13)) rfl rfl rfl (all2 rfl (fun _ => rfl)) (lt1 rfl) (stg_no rfl (stg_yes [(3, _)] ⟨.inl rfl, trivial⟩ (fun sl hsl K hK => one_op rfl (ok_move rfl rfl rfl (hsl _ _ rfl) hK)) stg_nil)) (ds_pure (fun _ => .p (eS (s13 ++ ([109, 111, 100, 117, 108, 101, 46] : Bytes)))) rfl rfl rfl (all2 rfl (fun _ => rfl)) (lt1 rfl) (stg_no rfl (stg_yes [(11, _)] ⟨.inr ⟨0, _, rfl, rfl, rfl⟩, trivial⟩ (fun sl hsl K hK => one_op rfl (ok_concat rfl rfl rfl (hsl _ _ rfl) rfl hk16 hK)) stg_nil)) ?_)
  refine ds_pure (fun _ => .p (eL eTModuleStep l_0)) rfl rfl rfl (all2 rfl (fun _ => rfl)) (lt1 rfl) (stg_no rfl (stg_yes [(0, _)] ⟨.inl rfl, trivial⟩ (fun sl hsl K hK => one_op rfl (ok_move rfl rfl rfl (hsl _ _ rfl) hK)) stg_nil)) (ds_pure (fun _ => .p (eI i14)) rfl rfl rfl (all2 rfl (fun _ => rfl)) (lt1 rfl) (stg_no rfl (stg_yes [(4, _)] ⟨.inl rfl, trivial⟩ (fun sl hsl K hK => one_op rfl (ok_move rfl rfl rfl (hsl _ _ rfl) hK)) stg_nil)) ?_)
  refine ds_pure (fun _ => .rptr (TModuleStep.cs (lat l_0 i14))) rfl rfl rfl (all2 rfl (fun _ => rfl)) (lt1 rfl) (stg_no rfl (stg_yes [(13, _), (14, _)] ⟨.inr ⟨2, _, rfl, rfl, rfl⟩, .inr ⟨3, _, rfl, rfl, rfl⟩, trivial⟩ (fun sl hsl K hK => one_op rfl (op_at (f := eTModuleStep) (l := l_0) TModuleStep.cs rfl rfl rfl rfl rfl rfl (hsl _ _ rfl) rfl (hsl _ _ rfl) hk17 TModuleStep.cells_eq (fun _ => rfl) hK)) stg_nil)) (ds_pure (fun _ => .rptr (List.drop 0 (TModuleStep.cs (lat l_0 i14)))) rfl rfl rfl (all2 rfl (fun _ => rfl)) (lt1 rfl) (stg_no rfl (stg_yes [(15, _)] ⟨.inr ⟨4, _, rfl, rfl, rfl⟩, trivial⟩ (fun sl hsl K hK => one_op rfl (ok_fieldAddrR rfl rfl rfl rfl rfl rfl rfl rfl (hsl _ _ rfl) hK)) stg_nil)) ?_)
  refine ds_pure (fun _ => .p (eS ((lat l_0 i14).fName))) rfl rfl rfl (all2 rfl (fun _ => rfl)) (lt1 rfl) (stg_no rfl (stg_yes [(16, _)] ⟨.inr ⟨5, _, rfl, rfl, rfl⟩, trivial⟩ (fun sl hsl K hK => one_op rfl (ok_loadR1 rfl rfl rfl rfl rfl (hsl _ _ rfl) rfl hK)) stg_nil)) (ds_pure (fun _ => .p (eS ((s13 ++ ([109, 111, 100, 117, 108, 101, 46] : Bytes)) ++ ((lat l_0 i14).fName)))) rfl rfl rfl (all2 rfl (fun _ => rfl)) (lt1 rfl) (stg_no rfl (stg_yes [(12, _), (17, _)] ⟨.inr ⟨1, _, rfl, rfl, rfl⟩, .inr ⟨6, _, rfl, rfl, rfl⟩, trivial⟩ (fun sl hsl K hK => one_op rfl (ok_concat rfl rfl rfl (hsl _ _ rfl) (hsl _ _ rfl) hk18 hK)) stg_nil)) ?_)
  refine ds_pure (fun _ => .p (eL eTModuleStep l_0)) rfl rfl rfl (all2 rfl (fun _ => rfl)) (lt1 rfl) (stg_no rfl (stg_yes [(0, _)] ⟨.inl rfl, trivial⟩ (fun sl hsl K hK => one_op rfl (ok_move rfl rfl rfl (hsl _ _ rfl) hK)) stg_nil)) (ds_pure (fun _ => .p (eI i14)) rfl rfl rfl (all2 rfl (fun _ => rfl)) (lt1 rfl) (stg_no rfl (stg_yes [(4, _)] ⟨.inl rfl, trivial⟩ (fun sl hsl K hK => one_op rfl (ok_move rfl rfl rfl (hsl _ _ rfl) hK)) stg_nil)) ?_)
  refine ds_pure (fun _ => .rptr (TModuleStep.cs (lat l_0 i14))) rfl rfl rfl (all2 rfl (fun _ => rfl)) (lt1 rfl) (stg_no rfl (stg_yes [(19, _), (20, _)] ⟨.inr ⟨8, _, rfl, rfl, rfl⟩, .inr ⟨9, _, rfl, rfl, rfl⟩, trivial⟩ (fun sl hsl K hK => one_op rfl (op_at (f := eTModuleStep) (l := l_0) TModuleStep.cs rfl rfl rfl rfl rfl rfl (hsl _ _ rfl) rfl (hsl _ _ rfl) hk19 TModuleStep.cells_eq (fun _ => rfl) hK)) stg_nil)) (ds_pure (fun _ => .rptr (List.drop 1 (TModuleStep.cs (lat l_0 i14)))) rfl rfl rfl (all2 rfl (fun _ => rfl)) (lt1 rfl) (stg_no rfl (stg_yes [(21, _)] ⟨.inr ⟨10, _, rfl, rfl, rfl⟩, trivial⟩ (fun sl hsl K hK => one_op rfl (ok_fieldAddrR rfl rfl rfl rfl rfl rfl rfl rfl (hsl _ _ rfl) hK)) stg_nil)) ?_)
  refine ds_pure (fun _ => .p (.agg (TKey.cs ((lat l_0 i14).fKey)))) rfl rfl rfl (all2 rfl (fun _ => rfl)) (lt1 rfl) (stg_no rfl (stg_yes [(22, _)] ⟨.inr ⟨11, _, rfl, rfl, rfl⟩, trivial⟩ (fun sl hsl K hK => one_op rfl (ok_loadRA rfl rfl rfl rfl rfl (hsl _ _ rfl) rfl hK)) stg_nil)) (ds_pure (fun _ => .p (eS r20)) rfl rfl rfl (all2 rfl (fun _ => rfl)) (lt1 rfl) (stg_no rfl (stg_yes [(23, _)] ⟨.inr ⟨12, _, rfl, rfl, rfl⟩, trivial⟩ (fun sl hsl K hK => one_op rfl (ok_callP (ref06_FormatKey_ok _ ((lat l_0 i14).fKey) _ e21) rfl rfl rfl (args_cons (hsl _ _ rfl) args_nil) ⟨sr, trivial⟩ Tryz.call14 rfl hK)) stg_nil)) ?_)
  refine ds_pure (fun _ => .p (eS (((s13 ++ ([109, 111, 100, 117, 108, 101, 46] : Bytes)) ++ ((lat l_0 i14).fName)) ++ r20))) rfl rfl rfl (all2 rfl (fun _ => rfl)) (lt1 rfl) (stg_no rfl (stg_yes [(18, _), (24, _)] ⟨.inr ⟨7, _, rfl, rfl, rfl⟩, .inr ⟨13, _, rfl, rfl, rfl⟩, trivial⟩ (fun sl hsl K hK => one_op rfl (ok_concat rfl rfl rfl (hsl _ _ rfl) (hsl _ _ rfl) hk22 hK)) stg_nil)) (ds_pure (fun _ => .p (eS ((((s13 ++ ([109, 111, 100, 117, 108, 101, 46] : Bytes)) ++ ((lat l_0 i14).fName)) ++ r20) ++ ([46] : Bytes)))) rfl rfl rfl (all2 rfl (fun _ => rfl)) (lt1 rfl) (stg_no rfl (stg_yes [(25, _)] ⟨.inr ⟨14, _, rfl, rfl, rfl⟩, trivial⟩ (fun sl hsl K hK => one_op rfl (ok_concat rfl rfl rfl (hsl _ _ rfl) rfl hk23 hK)) stg_nil)) ?_)
  refine ds_imp (fun _ => .p (eS ((((s13 ++ ([109, 111, 100, 117, 108, 101, 46] : Bytes)) ++ ((lat l_0 i14).fName)) ++ r20) ++ ([46] : Bytes)))) [(26, _)] rfl ⟨.inr ⟨15, _, rfl, rfl, rfl⟩, trivial⟩ rfl rfl (fun _ => rfl) (lt1 (fun h => absurd h (by decide))) (fun sl hsl K hK => one_op rfl (ok_assign rfl rfl rfl (hsl _ _ rfl) hK)) (ds_nil ?_)
  refine nx 3 rfl (oA h1 rfl rfl fun hk24 h1 => ?_)
  exact nx 2 rfl (eX ((((s13 ++ ([109, 111, 100, 117, 108, 101, 46] : Bytes)) ++ ((lat l_0 i14).fName)) ++ r20) ++ ([46] : Bytes), i14 + 1) h1 (gE rfl rfl))
 exact nx 2 rfl (eXi _ (oi h1).symm (gE rfl rfl))

def ref06_Format (n : Nat) (a_0 : TAddress) : Option Bytes :=
 (ref06_Check n a_0).bind fun r1 =>
 if r1 = 0 then
  (ref06_Steps n a_0.fModule).bind fun r4 =>
  (
    if a_0.fData = true then
     ck (r4.length + ([100, 97, 116, 97, 46] : Bytes).length ≤ 9223372036854775807) <|
     some (r4 ++ ([100, 97, 116, 97, 46] : Bytes))
    else
     some r4
   : Option Bytes).bind fun s8 =>
  ck (s8.length + a_0.fType.length ≤ 9223372036854775807) <|
  ck ((s8 ++ a_0.fType).length + ([46] : Bytes).length ≤ 9223372036854775807) <|
  ck (((s8 ++ a_0.fType) ++ ([46] : Bytes)).length + a_0.fName.length ≤ 9223372036854775807) <|
  (ref06_FormatKey n a_0.fKey).bind fun r12 =>
  ck ((((s8 ++ a_0.fType) ++ ([46] : Bytes)) ++ a_0.fName).length + r12.length ≤ 9223372036854775807) <|
  some ((((s8 ++ a_0.fType) ++ ([46] : Bytes)) ++ a_0.fName) ++ r12)
 else
  some ([] : Bytes)

set_option maxHeartbeats 4000000 in
theorem ref06_Format_ok (n : Nat) (a_0 : TAddress) (r : Bytes) (h0 : ref06_Format n a_0 = some r) : PCalls Tryz.prog 12 [.agg (TAddress.cs a_0)] (· = .p (eS r)) := by
 unfold ref06_Format at h0
 refine pbodyA good Tryz.func12 rfl rfl rfl fun w0 => mP (fun v : Bytes => .p (eS v)) ?_
 refine nx 9 rfl (bd h0 fun r1 e2 h0 => ?_)
 refine oK (ref06_Check_ok _ a_0 _ e2) rfl ⟨sr, trivial⟩ Tryz.call10 rfl (nx 2 rfl ?_)
 refine fN [6] h0 rfl (fun c3 h0 => ?_) fun c3 h0 => ?_
 ·refine nx 6 rfl (bd h0 fun r4 e5 h0 => ?_)
  refine oK (ref06_Steps_ok _ a_0.fModule _ e5) rfl ⟨sr, trivial⟩ Tryz.call33 rfl (nx 3 rfl ?_)
  refine bd h0 fun o16 h1 h0 => kN o16 (fun v17 => ⟨[(1, .ptr 1 0), (3, .p (eS v17))], [(1, [.p (eL eTModuleStep a_0.fModule), .p (eB a_0.fData), .p (eS a_0.fType), .p (eS a_0.fName), .p (eI a_0.fKey.fKind), .p (eI a_0.fKey.fNum), .p (eS a_0.fKey.fStr)])]⟩) ?_ ?_
  ·refine nx 2 rfl (cc' h0 fun hk9 h0 => ?_)
   refine cc' h0 fun hk10 h0 => cc' h0 fun hk11 h0 => bd h0 fun r12 e13 h0 => cc' h0 fun hk14 h0 => mD [(1, .ptr 1 0), (3, .p (eS o16))] rfl ⟨rfl, rfl, trivial⟩ rfl (dR 3 rfl ?_)
   refine dq (.p (eS (o16 ++ a_0.fType))) [14,16] rfl (fun _ e _ q => one_op rfl (ok_concat rfl rfl rfl (e _ _ rfl) (e _ _ rfl) hk9 q)) rfl (dq (.p (eS ((o16 ++ a_0.fType) ++ ([46] : Bytes)))) [17] rfl (fun _ e _ q => one_op rfl (ok_concat rfl rfl rfl (e _ _ rfl) rfl hk10 q)) rfl ?_)
   refine dR 2 rfl (dq (.p (eS (((o16 ++ a_0.fType) ++ ([46] : Bytes)) ++ a_0.fName))) [18,20] rfl (fun _ e _ q => one_op rfl (ok_concat rfl rfl rfl (e _ _ rfl) (e _ _ rfl) hk11 q)) rfl ?_)
   refine dR 2 rfl (dq (.p (eS r12)) [23] rfl (fun _ e _ q => one_op rfl (ok_callP (ref06_FormatKey_ok _ a_0.fKey _ e13) rfl rfl rfl (args_cons (e _ _ rfl) args_nil) ⟨sr, trivial⟩ Tryz.call14 rfl q)) rfl ?_)
   refine dq (.p (eS ((((o16 ++ a_0.fType) ++ ([46] : Bytes)) ++ a_0.fName) ++ r12))) [21,24] rfl (fun _ e _ q => one_op rfl (ok_concat rfl rfl rfl (e _ _ rfl) (e _ _ rfl) hk14 q)) rfl (dR 1 rfl ?_)
   refine dE rfl (nx 2 rfl ?_)
   exact mQ (oi h0) rfl (sr)
  refine nx 5 rfl (fB [11] h1 rfl (fun c6 h1 => ?_) fun c6 h1 => ?_)
  ·refine nx 3 rfl (oC h1 rfl fun hk7 h1 => ?_)
   exact nx 2 rfl (eX _ (oi h1).symm (gE rfl rfl))
  exact nx 2 rfl (eX _ (oi h1).symm (gE rfl rfl))
 exact nx 6 rfl (mQ (oi h0) rfl (sr))

end Go.Ab.R06
