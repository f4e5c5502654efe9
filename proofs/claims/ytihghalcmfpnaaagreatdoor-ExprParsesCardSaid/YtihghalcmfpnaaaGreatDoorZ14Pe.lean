/- Texts of the proof, one behind the other. No statement is proved here. -/
import Derived.Test.YtihghalcmfpnaaaGreatDoorZ14Pa
import Derived.Test.YtihghalcmfpnaaaGreatDoorZ14Pb
import Derived.Test.YtihghalcmfpnaaaGreatDoorZ14Pc
import Derived.Test.YtihghalcmfpnaaaGreatDoorZ14Pd
set_option maxHeartbeats 4000000
section
namespace Go.Ab.R06
open Go.Proofs Go.Ab Go.Ab.RB
set_option maxRecDepth 4000
attribute [local irreducible] awp ik bg bO cv AV.sub M dc
instance QX:HE Tryz.prog 190:=⟨Tryz.call190⟩
instance Rf:HE Tryz.prog 214:=⟨Tryz.call214⟩
instance QV:HE Tryz.prog 179:=⟨Tryz.call179⟩
instance Qv:HE Tryz.prog 161:=⟨Tryz.call161⟩
instance Rc:HE Tryz.prog 194:=⟨Tryz.call194⟩
instance Rk:HE Tryz.prog 177:=⟨Tryz.call177⟩
instance QZ:HE Tryz.prog 178:=⟨Tryz.call178⟩
instance O9:HE Tryz.prog 160:=⟨Tryz.call160⟩
def jE (UN:Int):Option Bool :=
 (
   if (-9007199254740992)<=UN then
    some (decide (UN<=9007199254740992))
   else
    some false
  ).bind λ t2 =>
 some t2
instance H7 (UN:Int):∀ (r:Bool),HP (jE UN=some r) Tryz.prog 190 [eI UN] (.p (eB r)):=by
 refine hP good Tryz.func190 Z Z λ r h0 _ w0=>?_;unfold jE at h0;exact kb
def et (Mr:Bytes):Nat->Int->Option (Unit⊕Bool)
 | 0,_=>none
 | m+1,i9 =>
 if i9 < (Mr.length:Int) then
  (
    ck ((0:Int)<=i9/\i9 < (Mr.length:Int)) <|
    if byt Mr i9 < 48 then
     some true
    else
     ck ((0:Int)<=i9/\i9 < (Mr.length:Int)) <|
     some (decide (57 < byt Mr i9))
   ).bind λ Ya =>
  if Ya=true then
   some (.inr false)
  else
   ck (inR (i9+1)) <|
   et Mr m (i9+1)
 else
  some (.inl ())
def jK (n:Nat)(Mr:Bytes):Option Bool :=
 jn (et Mr n 0) λ _TD =>
 (
   if Mr=([48]:Bytes) then
    some true
   else
    if Mr=([]:Bytes) then
     some false
    else
     ck ((0:Int)<=0/\0 < (Mr.length:Int)) <|
     some (!decide (byt Mr 0=48))
  ).bind λ t21 =>
 some t21
instance Fo (n:Nat) (Mr:Bytes):∀ (r:Bool),HP (jK n Mr=some r) Tryz.prog 214 [eS Mr] (.p (eB r)):=by
 refine hP good Tryz.func214 Z Z λ r h0 _ w0=>?_;unfold jK at h0;refine nx 10 rfl ?_;obtain ⟨VY,h1,Tz,hR0⟩:=br h0;refine kEx 0 (λ VH:Unit=>VY=.inl VH) (λ VH=>⟨[(0,.p (eS Mr))],[]⟩) (λ VH hv=>?_) ?_
 ·have h0:=Tz _ hv;have:=js [600];have:=jS 600 Bool λ v=>[(2,.p (eB v))]
  exact J0
 refine lG (λ (Uw:Int)=>⟨[(0,.p (eS Mr)),(3,.p (eI Uw))],[]⟩) (λ m (Uw:Int)=>et Mr m Uw) Y 0 h1 (gE rfl rfl) ?_;rintro m i9 h1;replace h1:et Mr (m+1) i9=some VY:=h1;rw [et] at h1;have:=js [400];have:=jS 400 Bool λ v=>[(19,.p (eB v))]
 exact ay
def fg (t6:Bytes):Nat->Int->Int->Option Int
 | 0,_,_=>none
 | m+1,n22,i23 =>
 if i23 < (t6.length:Int) then
  ck (inR (10*n22)) <|
  ck ((0:Int)<=i23/\i23 < (t6.length:Int)) <|
  ck (inR (IntKind.wrap .u8 ((byt t6 i23) - 48))) <|
  ck (inR ((10*n22)+(IntKind.wrap .u8 ((byt t6 i23) - 48)))) <|
  ck (inR (i23+1)) <|
  fg t6 m ((10*n22)+(IntKind.wrap .u8 ((byt t6 i23) - 48))) (i23+1)
 else
  some n22
def kR (n:Nat)(Mr:Bytes):Option (Int×Int) :=
 (
   if 0 < (Mr.length:Int) then
    ck ((0:Int)<=0/\0 < (Mr.length:Int)) <|
    some (decide (byt Mr 0=45))
   else
    some false
  ).bind λ minus3 =>
 (
   if minus3=true then
    ck ((0:Int)<=1/\1<=(Mr.length:Int)/\(Mr.length:Int)<=(Mr.length:Int)) <|
    some (sub Mr 1 (Mr.length:Int))
   else
    some Mr
  ).bind λ t6 =>
 (
   (jK n t6).bind λ r7 =>
   if (!r7)=true then
    some true
   else
    if minus3=true then
     some (decide (t6=([48]:Bytes)))
    else
     some false
  ).bind λ t11 =>
 if t11=true then
  some (0,2)
 else
  if 16 < (t6.length:Int) then
   some (0,5)
  else
   (fg t6 n 0 0).bind λ n32 =>
   (
     if minus3=true then
      ck (inR (0 - n32)) <|
      some (0 - n32)
     else
      some n32
    ).bind λ n35 =>
   (jE n35).bind λ Xr =>
   if (!Xr)=true then
    some (0,5)
   else
    some (n35,0)
instance FD (n:Nat) (Mr:Bytes):∀ (r:Int×Int),HP (kR n Mr=some r) Tryz.prog 200 [eS Mr] (.tuple [.p (eI r.1),.p (eI r.2)]):=by
 refine hP good Tryz.func200 Z Z λ r h0 _ w0=>?_;unfold kR at h0;refine nx 6 Z (bd h0 λ WQ h1 h0=>kN WQ (λ WV=>⟨[(0,.p (eS Mr)),(4,.p (eB WV))],[]⟩) ?_ ?_)
 ·refine nx 7 Z (bd h0 λ YJ h1 h0=>kN YJ (λ ZP=>⟨[(4,.p (eB WQ)),(5,.p (eS ZP))],[]⟩) ?_ ?_)
  ·refine nx 3 Z (bd h0 λ Yl h1 h0=>kN Yl (λ WN=>⟨[(4,.p (eB WQ)),(5,.p (eS YJ)),(29,.p (eB WN))],[]⟩) ?_ ?_)
   ·refine nx 1 Z (fB [29] h0 Z (λ ZG h0=>?_) λ ZG h0=>?_)
    ·exact J0
    refine nx 6 Z (oLs Z (nx 2 Z (fD [32] h0 Z (λ XW h0=>?_) λ XW h0=>?_)))
    ·exact J0
    refine nx 12 Z (bd h0 λ Wu h1 h0=>kE 0 Wu (λ v51=>⟨[(4,.p (eB WQ)),(6,.p (eI v51))],[]⟩) ?_ ?_)
    ·refine nx 2 Z (bd h0 λ X3 h1 h0=>kN X3 (λ v53=>⟨[(6,.p (eI v53))],[]⟩) ?_ ?_)
     ·exact J0
     refine nx 4 Z (fB [4,47] h1 Z (λ ZC h1=>?_) λ ZC h1=>?_)
     ·refine nx 3 Z (cc' h1 λ Wx h1=>mO Z (PU Z Z Z Z Wx ?_));exact ay
     exact ay
    refine lG (λ (Z7:Int×Int)=>⟨[(4,.p (eB WQ)),(5,.p (eS YJ)),(6,.p (eI Z7.1)),(7,.p (eI Z7.2))],[]⟩) (λ m (Z7:Int×Int)=>fg YJ m Z7.1 Z7.2) Y (0,0) h1 (gE rfl rfl) ?_;rintro m ⟨n22,i23⟩ h1;replace h1:fg YJ (m+1) n22 i23=some Wu:=h1;rw [fg] at h1;refine nx 5 rfl (oLs rfl (nx 2 rfl (fD [36] h1 rfl (λ XT h1=>?_) λ XT h1=>?_)))
    ·refine nx 6 Z (oA h1 Z Z λ VO h1=>nx 2 Z (oI h1 Z λ Wz h1=>nx 1 Z (cc' h1 λ Wy h1=>mO Z (eM Z Z Z Z Z Z Z Z (jc Wy) ?_))));exact ay
    exact ay
   exact ay
  exact ay
 exact ay
def fM:Nat->Int->Option Bytes
 | 0,_=>none
 | n+1,UN =>
 (
   if 0<=UN then
    some (decide (UN<=9))
   else
    some false
  ).bind λ t2 =>
 if t2=true then
  ck (inR (48+UN)) <|
  ck ((0:Int)<=IntKind.wrap .u8 (48+UN)/\IntKind.wrap .u8 (48+UN) < 256) <|
  some [u8 (IntKind.wrap .u8 (48+UN))]
 else
  (
    if UN < 0 then
     some (decide ((-10) < UN))
    else
     some false
   ).bind λ t7 =>
  if t7=true then
   ck (inR (0 - UN)) <|
   ((fM n) (0 - UN)).bind λ Tn =>
   ck (([45]:Bytes).length+Tn.length<=9223372036854775807) <|
   some (([45]:Bytes)++Tn)
  else
   if UN < 0 then
    ck ((10:Int)≠0) <|
    ((fM n) (IntKind.wrap .i64 (UN.tdiv 10))).bind λ S5 =>
    ck ((10:Int)≠0) <|
    ck (inR (0 - (UN.tmod 10))) <|
    ((fM n) (0 - (UN.tmod 10))).bind λ Va =>
    ck (S5.length+Va.length<=9223372036854775807) <|
    some (S5++Va)
   else
    ck ((10:Int)≠0) <|
    ((fM n) (IntKind.wrap .i64 (UN.tdiv 10))).bind λ Tp =>
    ck ((10:Int)≠0) <|
    ((fM n) (UN.tmod 10)).bind λ TR =>
    ck (Tp.length+TR.length<=9223372036854775807) <|
    some (Tp++TR)
def iZ:Nat->Int->Option Bytes
 | 0,_=>none
 | n+1,S3 =>
 ck ((16:Int)≠0) <|
 ck ((16:Int)≠0) <|
 ck (inR ((S3.tmod 16)+1)) <|
 ck ((0:Int)<=S3.tmod 16/\S3.tmod 16<=(S3.tmod 16)+1/\(S3.tmod 16)+1<=(([48,49,50,51,52,53,54,55,56,57,97,98,99,100,101,102]:Bytes).length:Int)) <|
 if S3 < 16 then
  some (sub ([48,49,50,51,52,53,54,55,56,57,97,98,99,100,101,102]:Bytes) (S3.tmod 16) ((S3.tmod 16)+1))
 else
  ck ((16:Int)≠0) <|
  ((iZ n) (IntKind.wrap .i64 (S3.tdiv 16))).bind λ r7 =>
  ck (r7.length+(sub ([48,49,50,51,52,53,54,55,56,57,97,98,99,100,101,102]:Bytes) (S3.tmod 16) ((S3.tmod 16)+1)).length<=9223372036854775807) <|
  some (r7++(sub ([48,49,50,51,52,53,54,55,56,57,97,98,99,100,101,102]:Bytes) (S3.tmod 16) ((S3.tmod 16)+1)))
def ni (n:Nat)(b_0:Int):Option Bytes :=
 if b_0=10 then
  some ([92,110]:Bytes)
 else
  if b_0=13 then
   some ([92,114]:Bytes)
  else
   if b_0=9 then
    some ([92,116]:Bytes)
   else
    if b_0=34 then
     some ([92,34]:Bytes)
    else
     if b_0=92 then
      some ([92,92]:Bytes)
     else
      (
        if b_0 < 32 then
         some true
        else
         some (decide (b_0=127))
       ).bind λ t7 =>
      if t7=true then
       ck (inR (b_0)) <|
       (iZ n b_0).bind λ Tn =>
       ck (([92,117,123]:Bytes).length+Tn.length<=9223372036854775807) <|
       ck ((([92,117,123]:Bytes)++Tn).length+([125]:Bytes).length<=9223372036854775807) <|
       some ((([92,117,123]:Bytes)++Tn)++([125]:Bytes))
      else
       ck ((0:Int)<=b_0/\b_0 < 256) <|
       some [u8 b_0]
def iN (n:Nat)(Mr:Bytes):Nat->Bytes->Int->Option Bytes
 | 0,_,_=>none
 | m+1,Y6,i10 =>
 if i10 < (Mr.length:Int) then
  ck ((0:Int)<=i10/\i10 < (Mr.length:Int)) <|
  (ni n (byt Mr i10)).bind λ US =>
  ck (Y6.length+US.length<=9223372036854775807) <|
  ck (inR (i10+1)) <|
  iN n Mr m (Y6++US) (i10+1)
 else
  some Y6
def sH (n:Nat)(Mr:Bytes):Option Bytes :=
 (iN n Mr n ([34]:Bytes) 0).bind λ YF =>
 ck (YF.length+([34]:Bytes).length<=9223372036854775807) <|
 some (YF++([34]:Bytes))
def ea (Mr:Bytes)(SJ:Int)(lo_2:Int)(hi_3:Int):Option Bool :=
 (
   if SJ < (Mr.length:Int) then
    ck ((0:Int)<=SJ/\SJ < (Mr.length:Int)) <|
    if lo_2<=byt Mr SJ then
     ck ((0:Int)<=SJ/\SJ < (Mr.length:Int)) <|
     some (decide (byt Mr SJ<=hi_3))
    else
     some false
   else
    some false
  ).bind λ t5 =>
 some t5
instance Lm (Mr:Bytes) (SJ:Int) (lo_2:Int) (hi_3:Int):∀ (r:Bool),HP (ea Mr SJ lo_2 hi_3=some r) Tryz.prog 179 [eS Mr,eI SJ,eK .u8 lo_2,eK .u8 hi_3] (.p (eB r)):=by
 refine hP good Tryz.func179 Z Z λ r h0 _ w0=>?_;unfold ea at h0;have:=js [100];have:=jS 100 Bool λ v=>[(8,.p (eB v))]
 exact J0
def iX (Mr:Bytes)(SJ:Int):Option (Int×Int) :=
 (
   if SJ < 0 then
    some true
   else
    some (decide ((Mr.length:Int)<=SJ))
  ).bind λ t2 =>
 if t2=true then
  some (0,0)
 else
  ck ((0:Int)<=SJ/\SJ < (Mr.length:Int)) <|
  if byt Mr SJ < 128 then
   ck (inR (byt Mr SJ)) <|
   some (byt Mr SJ,1)
  else
   (
     if 194<=byt Mr SJ then
      if byt Mr SJ<=223 then
       ck (inR (SJ+1)) <|
       (ea Mr (SJ+1) 128 191).bind λ Tn =>
       some Tn
      else
       some false
     else
      some false
    ).bind λ t12 =>
   if t12=true then
    ck (inR (bH .u8 (byt Mr SJ) 31)) <|
    ck ((0:Int)<=6) <|
    ck (inR (SJ+1)) <|
    ck ((0:Int)<=SJ+1/\SJ+1 < (Mr.length:Int)) <|
    ck (inR (bH .u8 (byt Mr (SJ+1)) 63)) <|
    some (iOr .i64 (kj .i64 (bH .u8 (byt Mr SJ) 31) 6) (bH .u8 (byt Mr (SJ+1)) 63),2)
   else
    (
      if byt Mr SJ=224 then
       some 160
      else
       some 128
     ).bind λ lo20 =>
    (
      if byt Mr SJ=237 then
       some 159
      else
       some 191
     ).bind λ hi22 =>
    (
      if 224<=byt Mr SJ then
       if byt Mr SJ<=239 then
        ck (inR (SJ+1)) <|
        (ea Mr (SJ+1) lo20 hi22).bind λ TR =>
        if TR=true then
         ck (inR (SJ+2)) <|
         (ea Mr (SJ+2) 128 191).bind λ Wk =>
         some Wk
        else
         some false
       else
        some false
      else
       some false
     ).bind λ t32 =>
    if t32=true then
     ck (inR (bH .u8 (byt Mr SJ) 15)) <|
     ck ((0:Int)<=12) <|
     ck (inR (SJ+1)) <|
     ck ((0:Int)<=SJ+1/\SJ+1 < (Mr.length:Int)) <|
     ck (inR (bH .u8 (byt Mr (SJ+1)) 63)) <|
     ck ((0:Int)<=6) <|
     ck (inR (SJ+2)) <|
     ck ((0:Int)<=SJ+2/\SJ+2 < (Mr.length:Int)) <|
     ck (inR (bH .u8 (byt Mr (SJ+2)) 63)) <|
     some (iOr .i64 (iOr .i64 (kj .i64 (bH .u8 (byt Mr SJ) 15) 12) (kj .i64 (bH .u8 (byt Mr (SJ+1)) 63) 6)) (bH .u8 (byt Mr (SJ+2)) 63),3)
    else
     (
       if byt Mr SJ=240 then
        some 144
       else
        some 128
      ).bind λ lo44 =>
     (
       if byt Mr SJ=244 then
        some 143
       else
        some 191
      ).bind λ hi46 =>
     (
       if 240<=byt Mr SJ then
        if byt Mr SJ<=244 then
         ck (inR (SJ+1)) <|
         (ea Mr (SJ+1) lo44 hi46).bind λ r50 =>
         if r50=true then
          ck (inR (SJ+2)) <|
          (ea Mr (SJ+2) 128 191).bind λ UM =>
          if UM=true then
           ck (inR (SJ+3)) <|
           (ea Mr (SJ+3) 128 191).bind λ TV =>
           some TV
          else
           some false
         else
          some false
        else
         some false
       else
        some false
      ).bind λ t60 =>
     if t60=true then
      ck (inR (bH .u8 (byt Mr SJ) 7)) <|
      ck ((0:Int)<=18) <|
      ck (inR (SJ+1)) <|
      ck ((0:Int)<=SJ+1/\SJ+1 < (Mr.length:Int)) <|
      ck (inR (bH .u8 (byt Mr (SJ+1)) 63)) <|
      ck ((0:Int)<=12) <|
      ck (inR (SJ+2)) <|
      ck ((0:Int)<=SJ+2/\SJ+2 < (Mr.length:Int)) <|
      ck (inR (bH .u8 (byt Mr (SJ+2)) 63)) <|
      ck ((0:Int)<=6) <|
      ck (inR (SJ+3)) <|
      ck ((0:Int)<=SJ+3/\SJ+3 < (Mr.length:Int)) <|
      ck (inR (bH .u8 (byt Mr (SJ+3)) 63)) <|
      some (iOr .i64 (iOr .i64 (iOr .i64 (kj .i64 (bH .u8 (byt Mr SJ) 7) 18) (kj .i64 (bH .u8 (byt Mr (SJ+1)) 63) 12)) (kj .i64 (bH .u8 (byt Mr (SJ+2)) 63) 6)) (bH .u8 (byt Mr (SJ+3)) 63),4)
     else
      some (0,0)
instance Fy (Mr:Bytes) (SJ:Int):∀ (r:Int×Int),HP (iX Mr SJ=some r) Tryz.prog 161 [eS Mr,eI SJ] (.tuple [.p (eI r.1),.p (eI r.2)]):=by
 refine hP good Tryz.func161 Z Z λ r h0 _ w0=>?_;unfold iX at h0;refine nx 7 Z (bd h0 λ o83 h1 h0=>kN o83 (λ v84=>⟨[(0,.p (eS Mr)),(1,.p (eI SJ)),(16,.p (eB v84))],[]⟩) ?_ ?_)
 ·refine nx 1 Z (fB [16] h0 Z (λ c3 h0=>?_) λ c3 h0=>?_)
  ·exact J0
  refine nx 6 Z (oI h0 Z λ W5 h0=>nx 8 Z (fD [21] h0 Z (λ c5 h0=>?_) λ c5 h0=>?_))
  ·exact nx 4 Z (cc' h0 λ hk6 h0=>mO Z (eM Z Z Z Z Z Z Z Z (jc hk6) J0))
  refine nx 4 Z (bd h0 λ o85 h1 h0=>kN o85 (λ Xa=>⟨[(0,.p (eS Mr)),(1,.p (eI SJ)),(6,.p (eK .u8 (byt Mr SJ))),(35,.p (eB Xa))],[]⟩) ?_ ?_)
  ·refine nx 1 Z (fB [35] h0 Z (λ XW h0=>?_) λ XW h0=>?_)
   ·exact nx 5 Z (cc' h0 λ Vs h0=>mO Z (eM Z Z Z Z Z Z Z Z (jc Vs) (cc' h0 λ U4 h0=>mO Z (kg Z Z Z Z Z Z U4 (nx 2 Z (oA h0 Z Z λ UL h0=>oI h0 Z λ V8 h0=>nx 1 Z (cc' h0 λ Ut h0=>mO Z (eM Z Z Z Z Z Z Z Z (jc Ut) J0))))))))
   refine nx 8 Z (bd h0 λ o87 h1 h0=>kN o87 (λ v88=>⟨[(0,.p (eS Mr)),(1,.p (eI SJ)),(6,.p (eK .u8 (byt Mr SJ))),(7,.p (eK .u8 v88)),(8,.p (eK .u8 191))],[]⟩) ?_ ?_)
   ·refine nx 2 Z (bd h0 λ o89 h1 h0=>kN o89 (λ v90=>⟨[(0,.p (eS Mr)),(1,.p (eI SJ)),(6,.p (eK .u8 (byt Mr SJ))),(7,.p (eK .u8 o87)),(8,.p (eK .u8 v90))],[]⟩) ?_ ?_)
    ·refine nx 3 Z (bd h0 λ o91 h1 h0=>kN o91 (λ v92=>⟨[(0,.p (eS Mr)),(1,.p (eI SJ)),(6,.p (eK .u8 (byt Mr SJ))),(70,.p (eB v92))],[]⟩) ?_ ?_)
     ·refine nx 1 Z (fB [70] h0 Z (λ ZC h0=>?_) λ ZC h0=>?_)
      ·refine nx 2 Z (cc' h0 λ Wx h0=>cc' h0 λ W6 h0=>cc' h0 λ Zm h0=>cc' h0 λ Ww h0=>cc' h0 λ Zl h0=>cc' h0 λ Zk h0=>cc' h0 λ Ys h0=>cc' h0 λ VC h0=>cc' h0 λ Yr h0=>mD [(0,.p (eS Mr)),(1,.p (eI SJ)),(6,.p (eK .u8 (byt Mr SJ)))] Z ⟨Z,Z,Z,trivial⟩ Z (dR 2 Z (dq (.p (eI (bH .u8 (byt Mr SJ) 15))) [72] Z (λ _ e _ q=>ap Z (eM Z Z Z Z Z Z Z (e _ _ Z) (jc Wx) q)) Z (dq (.p (eI (kj .i64 (bH .u8 (byt Mr SJ) 15) 12))) [73] Z (λ _ e _ q=>ap Z (kg Z Z Z (e _ _ Z) Z Z W6 q)) Z (dR 2 Z (dq (.p (eI (SJ+1))) [76] Z (λ _ e _ q=>ap Z (fY Z Z Z (e _ _ Z) Z Z Zm q)) Z (dq (.p (eK .u8 (byt Mr (SJ+1)))) [75,77] Z (λ _ e _ q=>ap Z (fq Z Z Z Z Z (e _ _ Z) (e _ _ Z) Ww q)) Z (dR 1 Z (dq (.p (eI (bH .u8 (byt Mr (SJ+1)) 63))) [79] Z (λ _ e _ q=>ap Z (eM Z Z Z Z Z Z Z (e _ _ Z) (jc Zl) q)) Z (dq (.p (eI (kj .i64 (bH .u8 (byt Mr (SJ+1)) 63) 6))) [80] Z (λ _ e _ q=>ap Z (kg Z Z Z (e _ _ Z) Z Z Zk q)) Z (dR 3 Z (dq (.p (eI (SJ+2))) [84] Z (λ _ e _ q=>ap Z (fY Z Z Z (e _ _ Z) Z Z Ys q)) Z ?_))))))))))));exact dq (.p (eK .u8 (byt Mr (SJ+2)))) [83,85] Z (λ _ e _ q=>ap Z (fq Z Z Z Z Z (e _ _ Z) (e _ _ Z) VC q)) Z (dR 1 Z (dq (.p (eI (bH .u8 (byt Mr (SJ+2)) 63))) [87] Z (λ _ e _ q=>ap Z (eM Z Z Z Z Z Z Z (e _ _ Z) (jc Yr) q)) Z (dR 3 Z J0)))
      refine nx 8 Z (bd h0 λ o93 h1 h0=>kN o93 (λ v94=>⟨[(0,.p (eS Mr)),(1,.p (eI SJ)),(6,.p (eK .u8 (byt Mr SJ))),(7,.p (eK .u8 v94)),(8,.p (eK .u8 191))],[]⟩) ?_ ?_)
      ·refine nx 2 Z (bd h0 λ o95 h1 h0=>kN o95 (λ v96=>⟨[(0,.p (eS Mr)),(1,.p (eI SJ)),(6,.p (eK .u8 (byt Mr SJ))),(7,.p (eK .u8 o93)),(8,.p (eK .u8 v96))],[]⟩) ?_ ?_)
       ·refine nx 3 Z (bd h0 λ o97 h1 h0=>kN o97 (λ ZH=>⟨[(0,.p (eS Mr)),(1,.p (eI SJ)),(6,.p (eK .u8 (byt Mr SJ))),(119,.p (eB ZH))],[]⟩) ?_ ?_)
        ·refine nx 1 Z (fB [119] h0 Z (λ c61 h0=>?_) λ c61 h0=>?_)
         ·refine nx 2 Z (cc' h0 λ Zh h0=>cc' h0 λ hk63 h0=>cc' h0 λ hk64 h0=>cc' h0 λ XB h0=>cc' h0 λ hk66 h0=>cc' h0 λ hk67 h0=>cc' h0 λ aah h0=>cc' h0 λ Zg h0=>cc' h0 λ aag h0=>cc' h0 λ Zf h0=>cc' h0 λ hk72 h0=>cc' h0 λ aaf h0=>cc' h0 λ aae h0=>mD [(0,.p (eS Mr)),(1,.p (eI SJ)),(6,.p (eK .u8 (byt Mr SJ)))] Z ⟨Z,Z,Z,trivial⟩ Z (dR 2 Z (dq (.p (eI (bH .u8 (byt Mr SJ) 7))) [121] Z (λ _ e _ q=>ap Z (eM Z Z Z Z Z Z Z (e _ _ Z) (jc Zh) q)) Z (dq (.p (eI (kj .i64 (bH .u8 (byt Mr SJ) 7) 18))) [122] Z (λ _ e _ q=>ap Z (kg Z Z Z (e _ _ Z) Z Z hk63 q)) Z (dR 2 Z (dq (.p (eI (SJ+1))) [125] Z (λ _ e _ q=>ap Z (fY Z Z Z (e _ _ Z) Z Z hk64 q)) Z (dq (.p (eK .u8 (byt Mr (SJ+1)))) [124,126] Z (λ _ e _ q=>ap Z (fq Z Z Z Z Z (e _ _ Z) (e _ _ Z) XB q)) Z (dR 1 Z (dq (.p (eI (bH .u8 (byt Mr (SJ+1)) 63))) [128] Z (λ _ e _ q=>ap Z (eM Z Z Z Z Z Z Z (e _ _ Z) (jc hk66) q)) Z (dq (.p (eI (kj .i64 (bH .u8 (byt Mr (SJ+1)) 63) 12))) [129] Z (λ _ e _ q=>ap Z (kg Z Z Z (e _ _ Z) Z Z hk67 q)) Z ?_))))))))));exact dR 3 Z (dq (.p (eI (SJ+2))) [133] Z (λ _ e _ q=>ap Z (fY Z Z Z (e _ _ Z) Z Z aah q)) Z (dq (.p (eK .u8 (byt Mr (SJ+2)))) [132,134] Z (λ _ e _ q=>ap Z (fq Z Z Z Z Z (e _ _ Z) (e _ _ Z) Zg q)) Z (dR 1 Z (dq (.p (eI (bH .u8 (byt Mr (SJ+2)) 63))) [136] Z (λ _ e _ q=>ap Z (eM Z Z Z Z Z Z Z (e _ _ Z) (jc aag) q)) Z (dq (.p (eI (kj .i64 (bH .u8 (byt Mr (SJ+2)) 63) 6))) [137] Z (λ _ e _ q=>ap Z (kg Z Z Z (e _ _ Z) Z Z Zf q)) Z (dR 3 Z (dq (.p (eI (SJ+3))) [141] Z (λ _ e _ q=>ap Z (fY Z Z Z (e _ _ Z) Z Z hk72 q)) Z (dq (.p (eK .u8 (byt Mr (SJ+3)))) [140,142] Z (λ _ e _ q=>ap Z (fq Z Z Z Z Z (e _ _ Z) (e _ _ Z) aaf q)) Z (dR 1 Z (dq (.p (eI (bH .u8 (byt Mr (SJ+3)) 63))) [144] Z (λ _ e _ q=>ap Z (eM Z Z Z Z Z Z Z (e _ _ Z) (jc aae) q)) Z (dR 3 Z J0)))))))))))
         exact J0
        exact ay
       exact ay
      exact ay
     exact ay
    exact ay
   exact ay
  exact ay
 exact ay
def gq (Mr:Bytes):Nat->Int->Option (Unit⊕Bool)
 | 0,_=>none
 | m+1,i8 =>
 if i8 < (Mr.length:Int) then
  (iX Mr i8).bind λ Tn =>
  if Tn.2=0 then
   some (.inr false)
  else
   ck (inR (i8+Tn.2)) <|
   gq Mr m (i8+Tn.2)
 else
  some (.inl ())
def ll (n:Nat)(Mr:Bytes):Option Bool :=
 if 4096 < (Mr.length:Int) then
  some false
 else
  jn (gq Mr n 0) λ _VX =>
  some true
instance Gf (n:Nat) (Mr:Bytes):∀ (r:Bool),HP (ll n Mr=some r) Tryz.prog 205 [eS Mr] (.p (eB r)):=by
 refine hP good Tryz.func205 Z Z λ r h0 _ w0=>?_;unfold ll at h0;refine nx 8 Z (oLs Z (nx 2 Z (fD [8] h0 Z (λ c1 h0=>?_) λ c1 h0=>?_)))
 ·exact J0
 refine nx 8 rfl ?_;obtain ⟨o16,h1,Tz,hR0⟩:=br h0;refine kEx 0 (λ ZT:Unit=>o16=.inl ZT) (λ ZT=>⟨[],[]⟩) (λ ZT hv=>?_) ?_
 ·exact fP
 refine lG (λ (q18:Int)=>⟨[(0,.p (eS Mr)),(3,.p (eI q18))],[]⟩) (λ m (q18:Int)=>gq Mr m q18) Y 0 h1 (gE rfl rfl) ?_;rintro m i8 h1;replace h1:gq Mr (m+1) i8=some o16:=h1;rw [gq] at h1;exact ay
def lP (b_0:Int):Option Int :=
 (
   if 48<=b_0 then
    some (decide (b_0<=57))
   else
    some false
  ).bind λ t2 =>
 if t2=true then
  ck (inR (IntKind.wrap .u8 (b_0 - 48))) <|
  some (IntKind.wrap .u8 (b_0 - 48))
 else
  (
    if 97<=b_0 then
     some (decide (b_0<=102))
    else
     some false
   ).bind λ t6 =>
  if t6=true then
   ck (inR (IntKind.wrap .u8 (b_0 - 97))) <|
   ck (inR ((IntKind.wrap .u8 (b_0 - 97))+10)) <|
   some ((IntKind.wrap .u8 (b_0 - 97))+10)
  else
   some (-1)
instance Mu (b_0:Int):∀ (r:Int),HP (lP b_0=some r) Tryz.prog 194 [eK .u8 b_0] (.p (eI r)):=by
 refine hP good Tryz.func194 Z Z λ r h0 _ w0=>?_;unfold lP at h0;refine nx 6 Z (bd h0 λ Zd h1 h0=>kN Zd (λ YU=>⟨[(0,.p (eK .u8 b_0)),(8,.p (eB YU))],[]⟩) ?_ ?_)
 ·refine nx 1 Z (fB [8] h0 Z (λ c3 h0=>?_) λ c3 h0=>?_)
  ·exact nx 5 Z (cc' h0 λ W5 h0=>mO Z (eM Z Z Z Z Z Z Z Z (jc W5) J0))
  refine nx 4 Z (bd h0 λ o14 h1 h0=>kN o14 (λ v15=>⟨[(0,.p (eK .u8 b_0)),(17,.p (eB v15))],[]⟩) ?_ ?_)
  ·refine nx 1 Z (fB [17] h0 Z (λ c7 h0=>?_) λ c7 h0=>?_)
   ·exact nx 5 Z (cc' h0 λ YL h0=>mO Z (eM Z Z Z Z Z Z Z Z (jc YL) J0))
   exact J0
  exact ay
 exact ay
def fe (Mr:Bytes)(SJ:Int):Nat->Int->Int->Option (Int×Int)
 | 0,_,_=>none
 | m+1,Xj,n20 =>
 (
   ck (inR (SJ+n20)) <|
   if SJ+n20 < (Mr.length:Int) then
    if n20 < 6 then
     ck (inR (SJ+n20)) <|
     ck ((0:Int)<=SJ+n20/\SJ+n20 < (Mr.length:Int)) <|
     (lP (byt Mr (SJ+n20))).bind λ TR =>
     some (decide (0<=TR))
    else
     some false
   else
    some false
  ).bind λ YV =>
 if YV=true then
  ck (inR (16*Xj)) <|
  ck (inR (SJ+n20)) <|
  ck ((0:Int)<=SJ+n20/\SJ+n20 < (Mr.length:Int)) <|
  (lP (byt Mr (SJ+n20))).bind λ Vo =>
  ck (inR ((16*Xj)+Vo)) <|
  ck (inR (n20+1)) <|
  fe Mr SJ m ((16*Xj)+Vo) (n20+1)
 else
  some (Xj,n20)
def kO (n:Nat)(Mr:Bytes)(SJ:Int):Option (Int×Int×Int) :=
 (fe Mr SJ n 0 0).bind λ Vf =>
 ck (inR (SJ+Vf.2)) <|
 if (Mr.length:Int)<=SJ+Vf.2 then
  some (0,0,40)
 else
  (
    if Vf.2=0 then
     some true
    else
     ck (inR (SJ+Vf.2)) <|
     ck ((0:Int)<=SJ+Vf.2/\SJ+Vf.2 < (Mr.length:Int)) <|
     if byt Mr (SJ+Vf.2)=125 then
      if 1 < Vf.2 then
       ck ((0:Int)<=SJ/\SJ < (Mr.length:Int)) <|
       if byt Mr SJ=48 then
        some true
       else
        if 1114111 < Vf.1 then
         some true
        else
         if 55296<=Vf.1 then
          some (decide (Vf.1<=57343))
         else
          some false
      else
       if 1114111 < Vf.1 then
        some true
       else
        if 55296<=Vf.1 then
         some (decide (Vf.1<=57343))
        else
         some false
     else
      some true
   ).bind λ t54 =>
  if t54=true then
   some (0,0,2)
  else
   ck (inR (SJ+Vf.2)) <|
   ck (inR ((SJ+Vf.2)+1)) <|
   some (Vf.1,(SJ+Vf.2)+1,0)
instance JJ (n:Nat) (Mr:Bytes) (SJ:Int):∀ (r:Int×Int×Int),HP (kO n Mr SJ=some r) Tryz.prog 177 [eS Mr,eI SJ] (.tuple [.p (eI r.1),.p (eI r.2.1),.p (eI r.2.2)]):=by
 refine hP good Tryz.func177 Z Z λ r h0 _ w0=>?_;unfold kO at h0;refine nx 13 Z (bd h0 λ o61 h1 h0=>kE 0 o61 (λ v62=>⟨[(0,.p (eS Mr)),(1,.p (eI SJ)),(7,.p (eI v62.1)),(8,.p (eI v62.2))],[]⟩) ?_ ?_)
 ·have:=js [700];have:=jS 700 Bool λ v=>[(76,.p (eB v))]
  exact J0
 refine lG (λ (V3:Int×Int)=>⟨[(0,.p (eS Mr)),(1,.p (eI SJ)),(7,.p (eI V3.1)),(8,.p (eI V3.2))],[]⟩) (λ m (V3:Int×Int)=>fe Mr SJ m V3.1 V3.2) Y (0,0) h1 (gE rfl rfl) ?_;rintro m ⟨Xj,n20⟩ h1;replace h1:fe Mr SJ (m+1) Xj n20=some o61:=h1;rw [fe] at h1;have:=js [200];have:=jS 200 Bool λ v=>[(27,.p (eB v))]
 exact ay
def jV (S3:Int):Option Bytes :=
 if S3 < 128 then
  ck ((0:Int)<=IntKind.wrap .u8 (S3)/\IntKind.wrap .u8 (S3) < 256) <|
  some [u8 (IntKind.wrap .u8 (S3))]
 else
  if S3 < 2048 then
   ck ((0:Int)<=6) <|
   ck ((0:Int)<=IntKind.wrap .u8 (iOr .i64 192 (cP .i64 S3 6))/\IntKind.wrap .u8 (iOr .i64 192 (cP .i64 S3 6)) < 256) <|
   ck ((0:Int)<=IntKind.wrap .u8 (iOr .i64 128 (bH .i64 S3 63))/\IntKind.wrap .u8 (iOr .i64 128 (bH .i64 S3 63)) < 256) <|
   some [u8 (IntKind.wrap .u8 (iOr .i64 192 (cP .i64 S3 6))),u8 (IntKind.wrap .u8 (iOr .i64 128 (bH .i64 S3 63)))]
  else
   if S3 < 65536 then
    ck ((0:Int)<=12) <|
    ck ((0:Int)<=6) <|
    ck ((0:Int)<=IntKind.wrap .u8 (iOr .i64 224 (cP .i64 S3 12))/\IntKind.wrap .u8 (iOr .i64 224 (cP .i64 S3 12)) < 256) <|
    ck ((0:Int)<=IntKind.wrap .u8 (iOr .i64 128 (bH .i64 (cP .i64 S3 6) 63))/\IntKind.wrap .u8 (iOr .i64 128 (bH .i64 (cP .i64 S3 6) 63)) < 256) <|
    ck ((0:Int)<=IntKind.wrap .u8 (iOr .i64 128 (bH .i64 S3 63))/\IntKind.wrap .u8 (iOr .i64 128 (bH .i64 S3 63)) < 256) <|
    some [u8 (IntKind.wrap .u8 (iOr .i64 224 (cP .i64 S3 12))),u8 (IntKind.wrap .u8 (iOr .i64 128 (bH .i64 (cP .i64 S3 6) 63))),u8 (IntKind.wrap .u8 (iOr .i64 128 (bH .i64 S3 63)))]
   else
    ck ((0:Int)<=18) <|
    ck ((0:Int)<=12) <|
    ck ((0:Int)<=6) <|
    ck ((0:Int)<=IntKind.wrap .u8 (iOr .i64 240 (cP .i64 S3 18))/\IntKind.wrap .u8 (iOr .i64 240 (cP .i64 S3 18)) < 256) <|
    ck ((0:Int)<=IntKind.wrap .u8 (iOr .i64 128 (bH .i64 (cP .i64 S3 12) 63))/\IntKind.wrap .u8 (iOr .i64 128 (bH .i64 (cP .i64 S3 12) 63)) < 256) <|
    ck ((0:Int)<=IntKind.wrap .u8 (iOr .i64 128 (bH .i64 (cP .i64 S3 6) 63))/\IntKind.wrap .u8 (iOr .i64 128 (bH .i64 (cP .i64 S3 6) 63)) < 256) <|
    ck ((0:Int)<=IntKind.wrap .u8 (iOr .i64 128 (bH .i64 S3 63))/\IntKind.wrap .u8 (iOr .i64 128 (bH .i64 S3 63)) < 256) <|
    some [u8 (IntKind.wrap .u8 (iOr .i64 240 (cP .i64 S3 18))),u8 (IntKind.wrap .u8 (iOr .i64 128 (bH .i64 (cP .i64 S3 12) 63))),u8 (IntKind.wrap .u8 (iOr .i64 128 (bH .i64 (cP .i64 S3 6) 63))),u8 (IntKind.wrap .u8 (iOr .i64 128 (bH .i64 S3 63)))]
instance Fv (S3:Int):∀ (r:Bytes),HP (jV S3=some r) Tryz.prog 178 [eI S3] (.p (eS r)):=by
 refine hP good Tryz.func178 Z Z λ r h0 _ w0=>?_;unfold jV at h0;refine nx 10 Z (fD [4] h0 Z (λ c1 h0=>?_) λ c1 h0=>?_)
 ·exact nx 5 Z (cc' h0 λ Vg h0=>mO Z (aH eU [u8 (IntKind.wrap .u8 (S3))] Z Z Z Z Z Z Z Z Z Z Z Z Z (congr (congrArg List.cons (jC Vg)) Z) (mO Z (pK [u8 (IntKind.wrap .u8 (S3))] Z Z Z Z Z Z Z Z Z Z Z J0))))
 refine nx 8 Z (fD [10] h0 Z (λ c3 h0=>?_) λ c3 h0=>?_)
 ·exact nx 4 Z (cc' h0 λ W5 h0=>mO Z (kg Z Z Z Z Z Z W5 (nx 6 Z (cc' h0 λ hk6 h0=>cc' h0 λ YM h0=>mO Z (aH eU [u8 (IntKind.wrap .u8 (iOr .i64 192 (cP .i64 S3 6))),u8 (IntKind.wrap .u8 (iOr .i64 128 (bH .i64 S3 63)))] Z Z Z Z Z Z Z Z Z Z Z Z Z (congr (congrArg List.cons (jC hk6)) (congr (congrArg List.cons (jC YM)) Z)) (mO Z (pK [u8 (IntKind.wrap .u8 (iOr .i64 192 (cP .i64 S3 6))),u8 (IntKind.wrap .u8 (iOr .i64 128 (bH .i64 S3 63)))] Z Z Z Z Z Z Z Z Z Z Z J0)))))))
 refine nx 8 Z (fD [22] h0 Z (λ c7 h0=>?_) λ c7 h0=>?_)
 ·refine nx 4 Z (cc' h0 λ YL h0=>mO Z (kg Z Z Z Z Z Z YL (nx 3 Z (cc' h0 λ YK h0=>mO Z (kg Z Z Z Z Z Z YK (nx 7 Z (cc' h0 λ XH h0=>cc' h0 λ Vt h0=>cc' h0 λ VP h0=>mO Z (aH eU [u8 (IntKind.wrap .u8 (iOr .i64 224 (cP .i64 S3 12))),u8 (IntKind.wrap .u8 (iOr .i64 128 (bH .i64 (cP .i64 S3 6) 63))),u8 (IntKind.wrap .u8 (iOr .i64 128 (bH .i64 S3 63)))] Z Z Z Z Z Z Z Z Z Z Z Z Z (congr (congrArg List.cons (jC XH)) (congr (congrArg List.cons (jC Vt)) (congr (congrArg List.cons (jC VP)) Z))) (mO Z (pK [u8 (IntKind.wrap .u8 (iOr .i64 224 (cP .i64 S3 12))),u8 (IntKind.wrap .u8 (iOr .i64 128 (bH .i64 (cP .i64 S3 6) 63))),u8 (IntKind.wrap .u8 (iOr .i64 128 (bH .i64 S3 63)))] Z Z Z Z Z Z Z Z Z Z Z ?_))))))))));exact J0
 refine nx 5 Z (cc' h0 λ Vb h0=>mO Z (kg Z Z Z Z Z Z Vb (nx 3 Z (cc' h0 λ Vs h0=>mO Z (kg Z Z Z Z Z Z Vs (nx 4 Z (cc' h0 λ U4 h0=>mO Z (kg Z Z Z Z Z Z U4 (nx 7 Z (cc' h0 λ U3 h0=>?_))))))))));exact cc' h0 λ Ut h0=>cc' h0 λ V8 h0=>cc' h0 λ UL h0=>mO Z (aH eU [u8 (IntKind.wrap .u8 (iOr .i64 240 (cP .i64 S3 18))),u8 (IntKind.wrap .u8 (iOr .i64 128 (bH .i64 (cP .i64 S3 12) 63))),u8 (IntKind.wrap .u8 (iOr .i64 128 (bH .i64 (cP .i64 S3 6) 63))),u8 (IntKind.wrap .u8 (iOr .i64 128 (bH .i64 S3 63)))] Z Z Z Z Z Z Z Z Z Z Z Z Z (congr (congrArg List.cons (jC U3)) (congr (congrArg List.cons (jC Ut)) (congr (congrArg List.cons (jC V8)) (congr (congrArg List.cons (jC UL)) Z)))) (mO Z (pK [u8 (IntKind.wrap .u8 (iOr .i64 240 (cP .i64 S3 18))),u8 (IntKind.wrap .u8 (iOr .i64 128 (bH .i64 (cP .i64 S3 12) 63))),u8 (IntKind.wrap .u8 (iOr .i64 128 (bH .i64 (cP .i64 S3 6) 63))),u8 (IntKind.wrap .u8 (iOr .i64 128 (bH .i64 S3 63)))] Z Z Z Z Z Z Z Z Z Z Z J0)))
def jp (n:Nat)(Mr:Bytes)(SJ:Int):Option (Bytes×Int×Int) :=
 ck (inR (SJ+1)) <|
 if (Mr.length:Int)<=SJ+1 then
  some (([]:Bytes),0,40)
 else
  ck (inR (SJ+1)) <|
  ck ((0:Int)<=SJ+1/\SJ+1 < (Mr.length:Int)) <|
  if byt Mr (SJ+1)=110 then
   ck (inR (SJ+2)) <|
   some (([10]:Bytes),SJ+2,0)
  else
   if byt Mr (SJ+1)=114 then
    ck (inR (SJ+2)) <|
    some (([13]:Bytes),SJ+2,0)
   else
    if byt Mr (SJ+1)=116 then
     ck (inR (SJ+2)) <|
     some (([9]:Bytes),SJ+2,0)
    else
     (
       if byt Mr (SJ+1)=34 then
        some true
       else
        some (decide (byt Mr (SJ+1)=92))
      ).bind λ t12 =>
     if t12=true then
      ck (inR (SJ+1)) <|
      ck (inR (SJ+2)) <|
      ck ((0:Int)<=SJ+1/\SJ+1<=SJ+2/\SJ+2<=(Mr.length:Int)) <|
      ck (inR (SJ+2)) <|
      some (sub Mr (SJ+1) (SJ+2),SJ+2,0)
     else
      if byt Mr (SJ+1)=117 then
       ck (inR (SJ+2)) <|
       if (Mr.length:Int)<=SJ+2 then
        some (([]:Bytes),0,40)
       else
        ck (inR (SJ+2)) <|
        ck ((0:Int)<=SJ+2/\SJ+2 < (Mr.length:Int)) <|
        if byt Mr (SJ+2)=123 then
         ck (inR (SJ+3)) <|
         (kO n Mr (SJ+3)).bind λ UC =>
         if UC.2.2=0 then
          (jV UC.1).bind λ Tw =>
          some (Tw,UC.2.1,0)
         else
          some (([]:Bytes),0,UC.2.2)
        else
         some (([]:Bytes),0,2)
      else
       some (([]:Bytes),0,2)
instance Ew (n:Nat) (Mr:Bytes) (SJ:Int):∀ (r:Bytes×Int×Int),HP (jp n Mr SJ=some r) Tryz.prog 160 [eS Mr,eI SJ] (.tuple [.p (eS r.1),.p (eI r.2.1),.p (eI r.2.2)]):=by
 refine hP good Tryz.func160 Z Z λ r h0 _ w0=>?_;unfold jp at h0;have:=js [1001];have:=jS 1001 Bool λ v=>[(31,.p (eB v))]
 exact J0
def lV (n:Nat)(Mr:Bytes)(SJ:Int):Option (Bytes×Int×Int) :=
 ck ((0:Int)<=SJ/\SJ < (Mr.length:Int)) <|
 if byt Mr SJ=92 then
  (jp n Mr SJ).bind λ r3 =>
  some (r3.1,r3.2.1,r3.2.2)
 else
  (iX Mr SJ).bind λ r5 =>
  (
    if r5.2=0 then
     some true
    else
     ck ((0:Int)<=SJ/\SJ < (Mr.length:Int)) <|
     if byt Mr SJ < 32 then
      some true
     else
      ck ((0:Int)<=SJ/\SJ < (Mr.length:Int)) <|
      some (decide (byt Mr SJ=127))
   ).bind λ t11 =>
  if t11=true then
   some (([]:Bytes),0,2)
  else
   ck (inR (SJ+r5.2)) <|
   ck ((0:Int)<=SJ/\SJ<=SJ+r5.2/\SJ+r5.2<=(Mr.length:Int)) <|
   ck (inR (SJ+r5.2)) <|
   some (sub Mr SJ (SJ+r5.2),SJ+r5.2,0)
instance M0 (n:Nat) (Mr:Bytes) (SJ:Int):∀ (r:Bytes×Int×Int),HP (lV n Mr SJ=some r) Tryz.prog 128 [eS Mr,eI SJ] (.tuple [.p (eS r.1),.p (eI r.2.1),.p (eI r.2.2)]):=by
 refine hP good Tryz.func128 Z Z λ r h0 _ w0=>?_;unfold lV at h0;have:=js [400];have:=jS 400 Bool λ v=>[(38,.p (eB v))]
 exact J0
end Go.Ab.R06
end
section
namespace Go.Ab.R06
open Go.Proofs Go.Ab Go.Ab.RB
attribute [local irreducible] awp ik bg bO cv AV.sub M dc
instance QE:HE Tryz.prog 205:=⟨Tryz.call205⟩
instance Q7:HE Tryz.prog 189:=⟨Tryz.call189⟩
instance QG:HE Tryz.prog 191:=⟨Tryz.call191⟩
instance Q4:HE Tryz.prog 173:=⟨Tryz.call173⟩
instance QL:HE Tryz.prog 154:=⟨Tryz.call154⟩
instance QS:HE Tryz.prog 50:=⟨Tryz.call50⟩
def j3 (SO:am):Option Bool :=
 (
   if SO.Ar=2 then
    some true
   else
    if SO.Ar=1 then
     if SO.E'=0 then
      some true
     else
      if SO.E'=1 then
       some true
      else
       some (decide (SO.E'=0))
    else
     some (decide (SO.E'=0))
  ).bind λ num5 =>
 (
   if SO.Ar=3 then
    some true
   else
    some (decide (SO.If=([]:Bytes)))
  ).bind λ str7 =>
 (
   if SO.Ar=4 then
    some true
   else
    if SO.Ar=5 then
     some true
    else
     some (decide ((SO.Df.length:Int)=0))
  ).bind λ items10 =>
 (
   if SO.Ar=5 then
    if (SO.C'.length:Int)=(SO.Df.length:Int) then
     some true
    else
     some false
   else
    some (decide ((SO.C'.length:Int)=0))
  ).bind λ keys13 =>
 (
   if 0<=SO.Ar then
    if SO.Ar<=6 then
     if num5=true then
      if str7=true then
       if items10=true then
        some keys13
       else
        some false
      else
       some false
     else
      some false
    else
     some false
   else
    some false
  ).bind λ Ue =>
 some Ue
instance Fw (SO:am):∀ (r:Bool),HP (j3 SO=some r) Tryz.prog 189 [.agg (am.cs SO)] (.p (eB r)):=by
 refine hP good Tryz.func189 Z Z λ r h0 _ w0=>?_;unfold j3 at h0;refine nx 6 Z (bd h0 λ VY h1 h0=>kN VY (λ VH=>⟨[(1,.ptr 1 0),(3,.p (eB VH))],[(1,(am.cs SO).map .p)]⟩) ?_ ?_)
 ·refine nx 2 Z (bd h0 λ Y9 h1 h0=>kN Y9 (λ ZR=>⟨[(1,.ptr 1 0),(3,.p (eB VY)),(4,.p (eB ZR))],[(1,(am.cs SO).map .p)]⟩) ?_ ?_)
  ·refine nx 2 Z (bd h0 λ VN h1 h0=>kN VN (λ Ux=>⟨[(1,.ptr 1 0),(3,.p (eB VY)),(4,.p (eB Y9)),(5,.p (eB Ux))],[(1,(am.cs SO).map .p)]⟩) ?_ ?_)
   ·refine nx 2 Z (bd h0 λ Xz h1 h0=>kN Xz (λ Xb=>⟨[(1,.ptr 1 0),(3,.p (eB VY)),(4,.p (eB Y9)),(5,.p (eB VN)),(6,.p (eB Xb))],[(1,(am.cs SO).map .p)]⟩) ?_ ?_)
    ·refine nx 2 Z (bd h0 λ Y8 h1 h0=>kN Y8 (λ Yz=>⟨[(2,.p (eB Yz))],[]⟩) ?_ ?_)
     ·exact J0
     exact ay
    refine nx 5 Z (fD [54,55] h1 Z (λ W9 h1=>?_) λ W9 h1=>?_)
    ·refine nx 2 Z (oLl (f:=eS) Z Z (nx 2 Z (oLl (f:=cX) Z Z (nx 3 Z (fD [62,63,64] h1 Z (λ ZG h1=>?_) λ ZG h1=>?_)))))
     ·exact ay
     exact nx 4 Z (lT [68] (JL W9) Z (nx 8 Z gH))
    exact nx 13 Z (lT [68] (Ls W9) Z (nx 2 Z (oLl (f:=eS) Z Z (nx 5 Z gH))))
   exact ay
  exact ay
 exact ay
def jw (n:Nat)(Mr:Bytes):Option Int :=
 if 4096 < (Mr.length:Int) then
  some 3
 else
  (ll n Mr).bind λ r2 =>
  if (!r2)=true then
   some 1
  else
   some 0
instance Lg (n:Nat) (Mr:Bytes):∀ (r:Int),HP (jw n Mr=some r) Tryz.prog 191 [eS Mr] (.p (eI r)):=by
 refine hP good Tryz.func191 Z Z λ r h0 _ w0=>?_;unfold jw at h0;exact J0
def fX (n:Nat)(SO:am):Nat->Int->Option (Unit⊕Int)
 | 0,_=>none
 | m+1,i25 =>
 if i25 < (SO.C'.length:Int) then
  ck ((0:Int)<=i25/\i25 < (SO.C'.length:Int)) <|
  (jw n (lat SO.C' i25)).bind λ Tw =>
  if Tw=0 then
   (
     if 0 < i25 then
      ck (inR (i25 - 1)) <|
      ck ((0:Int)<=i25 - 1/\i25 - 1 < (SO.C'.length:Int)) <|
      ck ((0:Int)<=i25/\i25 < (SO.C'.length:Int)) <|
      some (!Op.bytesLess (lat SO.C' (i25 - 1)) (lat SO.C' i25))
     else
      some false
    ).bind λ t35 =>
   if t35=true then
    some (.inr 1)
   else
    ck (inR (i25+1)) <|
    fX n SO m (i25+1)
  else
   some (.inr Tw)
 else
  some (.inl ())
def mh (n:Nat)(SO:am):Option Int :=
 (j3 SO).bind λ r1 =>
 if (!r1)=true then
  some 1
 else
  (
    if SO.Ar=2 then
     (jE SO.E').bind λ r5 =>
     some (!r5)
    else
     some false
   ).bind λ t7 =>
  if t7=true then
   some 5
  else
   (jw n SO.If).bind λ r9 =>
   if r9=0 then
    jn (fX n SO n 0) λ _Yj =>
    some 0
   else
    some r9
instance Li (n:Nat) (SO:am):∀ (r:Int),HP (mh n SO=some r) Tryz.prog 173 [.agg (am.cs SO)] (.p (eI r)):=by
 refine hP good Tryz.func173 Z Z λ r h0 _ w0=>?_;unfold mh at h0;refine nx 9 Z (K0 λ r1 h0=>nx 2 Z (fB [8] h0 Z (λ c3 h0=>?_) λ c3 h0=>?_))
 ·exact J0
 refine nx 4 Z (bd h0 λ Xh h1 h0=>kN Xh (λ VS=>⟨[(1,.ptr 1 0),(17,.p (eB VS))],[(1,(am.cs SO).map .p)]⟩) ?_ ?_)
 ·refine nx 1 Z (fB [17] h0 Z (λ c8 h0=>?_) λ c8 h0=>?_)
  ·exact J0
  refine nx 7 Z (K0 λ r9 h0=>nx 7 Z (fN [22] h0 Z (λ W9 h0=>?_) λ W9 h0=>?_))
  ·refine nx 8 rfl ?_;obtain ⟨WQ,h1,Tz,hR0⟩:=br h0;refine kEx 0 (λ WV:Unit=>WQ=.inl WV) (λ WV=>⟨[],[]⟩) (λ WV hv=>?_) ?_
   ·exact fP
   refine lG (λ (VW:Int)=>⟨[(1,.ptr 1 0),(4,.p (eI VW))],[(1,(am.cs SO).map .p)]⟩) (λ m (VW:Int)=>fX n SO m VW) Y 0 h1 (gE rfl rfl) ?_;rintro m i25 h1;replace h1:fX n SO (m+1) i25=some WQ:=h1;rw [fX] at h1;refine nx 6 rfl (oLl (f:=eS) rfl rfl (nx 2 rfl (fD [28] h1 rfl (λ Yx h1=>?_) λ Yx h1=>?_)))
   ·refine nx 10 Z (oE h1 Y Z Z Y λ Wy h1=>nx 1 Z (K1 λ Tw h1=>nx 7 Z (fN [38] h1 Z (λ ZE h1=>?_) λ ZE h1=>?_)))
    ·refine nx 3 Z (bd h1 λ o47 h2 h1=>kN o47 (λ v48=>⟨[(1,.ptr 1 0),(4,.p (eI i25)),(55,.p (eB v48))],[(1,(am.cs SO).map .p)]⟩) ?_ ?_)
     ·exact ay
     refine fD (p:=0 < i25) [] h2 Z (λ ZD h2=>?_) λ ZD h2=>?_
     ·refine cc' h2 λ Zn h2=>cc' h2 λ aap h2=>cc' h2 λ Wx h2=>mD [(1,.ptr 1 0),(4,.p (eI i25))] Z ⟨Z,Z,trivial⟩ Z (dR 1 Z (dL (dt ZD) Z (dR 4 Z (dq (.p (eI (i25 - 1))) [42,45] Z (λ _ e _ q=>dB (fY Z Z Z (e _ _ Z) Z Z Zn q) Z Z (e _ _ Z) (rfl)) Z (dq (.rptr [eS (lat SO.C' (i25 - 1))]) [42,44,46] Z (λ _ e _ q=>dB (j5 (f:=eS) (l:=SO.C') (λ x=>[eS x]) Z Z Z Z Z Z (e _ _ Z) Z (e _ _ Z) aap Y Y q) Z Z (e _ _ Z) (rfl)) Z (dR 4 Z (dq (.rptr [eS (lat SO.C' i25)]) [42,50,51] Z (λ _ e _ q=>dB (j5 (f:=eS) (l:=SO.C') (λ x=>[eS x]) Z Z Z Z Z Z (e _ _ Z) Z (e _ _ Z) Wx Y Y q) Z Z (e _ _ Z) (rfl)) Z (dR 1 Z (dq (.p (eB (!Op.bytesLess (lat SO.C' (i25 - 1)) (lat SO.C' i25)))) [42,48,53] Z (λ _ e _ q=>dB (pG Z Z Z (e _ _ Z) (e _ _ Z) Z q) Z Z (e _ _ Z) (rfl)) Z ?_)))))))));exact bV
     exact mD [(1,.ptr 1 0),(4,.p (eI i25))] Z ⟨Z,Z,trivial⟩ Z (dR 1 Z (dL (df ZD) Z (dR 14 Z (dE Z Pp))))
    exact ay
   exact ay
  exact J0
 exact ay
def gp (Ui:am->Int->Int->Option (Int×Int))(SO:am)(O':Int):Nat->Int->Int->Option (Int⊕(Int×Int))
 | 0,_,_=>none
 | m+1,n16,i17 =>
 if i17 < (SO.Df.length:Int) then
  ck ((0:Int)<=i17/\i17 < (SO.Df.length:Int)) <|
  ck (inR (O'+1)) <|
  (Ui (lat SO.Df i17) (O'+1) n16).bind λ Tc =>
  if Tc.1=0 then
   ck (inR (i17+1)) <|
   gp Ui SO O' m Tc.2 (i17+1)
  else
   some (.inr (Tc.1,Tc.2))
 else
  some (.inl n16)
def ic:Nat->am->Int->Int->Option (Int×Int)
 | 0,_,_,_=>none
 | n+1,SO,O',SX =>
 if 32 < O' then
  some (4,SX)
 else
  if 4096<=SX then
   some (14,SX)
  else
   (mh n SO).bind λ r3 =>
   if r3=0 then
    ck (inR (SX+1)) <|
    jn (gp (ic n) SO O' n (SX+1) 0) λ n27 =>
    some (0,n27)
   else
    some (r3,SX)
instance Ha (n:Nat):∀ (SO:am) (O':Int) (SX:Int) (r:Int×Int),HP (ic n SO O' SX=some r) Tryz.prog 154 [.agg (am.cs SO),eI O',eI SX] (.tuple [.p (eI r.1),.p (eI r.2)]):=by
 induction n with
 | zero=>exact Zr
 | succ n ih =>
 refine λ SO O' SX=>hP good Tryz.func154 Z Z λ r h0 _ w0=>?_;rw [ic] at h0;refine nx 12 Z (fD [14] h0 Z (λ c1 h0=>?_) λ c1 h0=>?_)
 ·exact J0
 refine nx 8 Z (fD [17] h0 Z (λ c2 h0=>?_) λ c2 h0=>?_)
 ·exact J0
 refine nx 6 Z (K0 λ r3 h0=>nx 7 Z (fN [22] h0 Z (λ c5 h0=>?_) λ c5 h0=>?_))
 ·refine nx 5 rfl (oA h0 Z Z λ hk6 h0=>nx 8 rfl ?_);obtain ⟨VN,h1,Tz,hR0⟩:=br h0;refine kEx 0 (λ Ux:Int=>VN=.inl Ux) (λ Ux=>⟨[(9,.p (eI Ux))],[]⟩) (λ Ux hv=>?_) ?_
  ·exact fP
  refine lG (λ (UT:Int×Int)=>⟨[(1,.p (eI O')),(3,.ptr 3 0),(9,.p (eI UT.1)),(10,.p (eI UT.2))],[(3,(am.cs SO).map .p)]⟩) (λ m (UT:Int×Int)=>gp (ic n) SO O' m UT.1 UT.2) Y (SX+1,0) h1 (gE rfl rfl) ?_;rintro m ⟨n16,i17⟩ h1;replace h1:gp (ic n) SO O' (m+1) n16 i17=some VN:=h1;rw [gp] at h1;exact ay
 exact J0
def lg (n:Nat)(SO:am):Option Int :=
 (ic n SO 1 0).bind λ r1 =>
 some r1.1
instance HY (n:Nat) (SO:am):∀ (r:Int),HP (lg n SO=some r) Tryz.prog 116 [.agg (am.cs SO)] (.p (eI r)):=by
 refine hP good Tryz.func116 Z Z λ r h0 _ w0=>?_;unfold lg at h0;exact J0
def ee (a_0:am)(Tq:am):Nat->Int->Option (Unit⊕Bool)
 | 0,_=>none
 | m+1,i13 =>
 if i13 < (a_0.C'.length:Int) then
  ck ((0:Int)<=i13/\i13 < (a_0.C'.length:Int)) <|
  ck ((0:Int)<=i13/\i13 < (Tq.C'.length:Int)) <|
  if lat a_0.C' i13=lat Tq.C' i13 then
   ck (inR (i13+1)) <|
   ee a_0 Tq m (i13+1)
  else
   some (.inr false)
 else
  some (.inl ())
def d6 (Uj:am->am->Option Bool)(a_0:am)(Tq:am):Nat->Int->Option (Unit⊕Bool)
 | 0,_=>none
 | m+1,i28 =>
 if i28 < (a_0.Df.length:Int) then
  ck ((0:Int)<=i28/\i28 < (a_0.Df.length:Int)) <|
  ck ((0:Int)<=i28/\i28 < (Tq.Df.length:Int)) <|
  (Uj (lat a_0.Df i28) (lat Tq.Df i28)).bind λ Vp =>
  if (!Vp)=true then
   some (.inr false)
  else
   ck (inR (i28+1)) <|
   d6 Uj a_0 Tq m (i28+1)
 else
  some (.inl ())
def fR:Nat->am->am->Option Bool
 | 0,_,_=>none
 | n+1,a_0,Tq =>
 (
   if a_0.Ar=Tq.Ar then
    if a_0.E'=Tq.E' then
     if a_0.If=Tq.If then
      if (a_0.Df.length:Int)=(Tq.Df.length:Int) then
       some (!decide ((a_0.C'.length:Int)=(Tq.C'.length:Int)))
      else
       some true
     else
      some true
    else
     some true
   else
    some true
  ).bind λ t5 =>
 if t5=true then
  some false
 else
  jn (ee a_0 Tq n 0) λ _Z8 =>
  jn (d6 (fR n) a_0 Tq n 0) λ _Xg =>
  some true
instance Kj (n:Nat):∀ (a_0:am) (Tq:am) (r:Bool),HP (fR n a_0 Tq=some r) Tryz.prog 50 [.agg (am.cs a_0),.agg (am.cs Tq)] (.p (eB r)):=by
 induction n with
 | zero=>exact Zr
 | succ n ih =>
 refine λ a_0 Tq=>hP good Tryz.func50 Z Z λ r h0 _ w0=>?_;rw [fR] at h0;refine nx 8 Z (bd h0 λ o40 h1 h0=>kN o40 (λ ZQ=>⟨[(2,.ptr 2 0),(3,.ptr 3 0),(43,.p (eB ZQ))],[(2,(am.cs a_0).map .p),(3,(am.cs Tq).map .p)]⟩) ?_ ?_)
 ·refine nx 1 Z (fB [43] h0 Z (λ c6 h0=>?_) λ c6 h0=>?_)
  ·exact J0
  refine nx 8 rfl ?_;obtain ⟨Xh,h1,Tz,hR0⟩:=br h0;refine kEx 0 (λ VS:Unit=>Xh=.inl VS) (λ VS=>⟨[(2,.ptr 2 0),(3,.ptr 3 0)],[(2,(am.cs a_0).map .p),(3,(am.cs Tq).map .p)]⟩) (λ VS hv=>?_) ?_
  ·have h0:=Tz _ hv;refine nx 7 rfl ?_;obtain ⟨WQ,h1,Tz,hR0⟩:=br h0;refine kEx 2 (λ WV:Unit=>WQ=.inl WV) (λ WV=>⟨[],[]⟩) (λ WV hv=>?_) ?_
   ·exact fP
   refine lG (λ (VW:Int)=>⟨[(2,.ptr 2 0),(3,.ptr 3 0),(6,.p (eI VW))],[(2,(am.cs a_0).map .p),(3,(am.cs Tq).map .p)]⟩) (λ m (VW:Int)=>d6 (fR n) a_0 Tq m VW) Y 0 h1 (gE rfl rfl) ?_;rintro m i28 h1;replace h1:d6 (fR n) a_0 Tq (m+1) i28=some WQ:=h1;rw [d6] at h1;refine nx 6 rfl (oLl (f:=cX) rfl rfl (nx 2 rfl (fD [66] h1 rfl (λ c29 h1=>?_) λ c29 h1=>?_)))
   ·refine nx 5 Z (cc' h1 λ Zo h1=>cc' h1 λ XE h1=>bd h1 λ Vp e33 h1=>mD [(2,.ptr 2 0),(3,.ptr 3 0),(6,.p (eI i28))] Z ⟨Z,Z,Z,trivial⟩ Z (dR 3 Z (dq (.rptr (am.cs (lat a_0.Df i28))) [70,71] Z (λ _ e _ q=>ap Z (j5 (f:=cX) (l:=a_0.Df) am.cs Z Z Z Z Z Z (e _ _ Z) Z (e _ _ Z) Zo am.It Y q)) Z (dR 4 Z (dq (.rptr (am.cs (lat Tq.Df i28))) [75,76] Z (λ _ e _ q=>ap Z (j5 (f:=cX) (l:=Tq.Df) am.cs Z Z Z Z Z Z (e _ _ Z) Z (e _ _ Z) XE am.It Y q)) Z (dR 1 Z (dq (.p (eB Vp)) [73,78] Z (λ _ e _ q=>ap Z (gA (HP.c e33) Z Z Z (aT (e _ _ Z) (aT (e _ _ Z) b9)) ⟨sr,sr,trivial⟩ Tryz.call50 Z q)) Z (dR 1 Z ?_))))))));exact ay
   exact ay
  refine lG (λ (U6:Int)=>⟨[(2,.ptr 2 0),(3,.ptr 3 0),(5,.p (eI U6))],[(2,(am.cs a_0).map .p),(3,(am.cs Tq).map .p)]⟩) (λ m (U6:Int)=>ee a_0 Tq m U6) Y 0 h1 (gE rfl rfl) ?_;rintro m i13 h1;replace h1:ee a_0 Tq (m+1) i13=some Xh:=h1;rw [ee] at h1;refine nx 6 rfl (oLl (f:=eS) rfl rfl (nx 2 rfl (fD [48] h1 rfl (λ XV h1=>?_) λ XV h1=>?_)))
  ·refine nx 5 Z (cc' h1 λ U4 h1=>cc' h1 λ UL h1=>mD [(2,.ptr 2 0),(3,.ptr 3 0),(5,.p (eI i13))] Z ⟨Z,Z,Z,trivial⟩ Z (dR 3 Z (dq (.rptr [eS (lat a_0.C' i13)]) [52,53] Z (λ _ e _ q=>ap Z (j5 (f:=eS) (l:=a_0.C') (λ x=>[eS x]) Z Z Z Z Z Z (e _ _ Z) Z (e _ _ Z) U4 Y Y q)) Z (dR 4 Z (dq (.rptr [eS (lat Tq.C' i13)]) [57,58] Z (λ _ e _ q=>ap Z (j5 (f:=eS) (l:=Tq.C') (λ x=>[eS x]) Z Z Z Z Z Z (e _ _ Z) Z (e _ _ Z) UL Y Y q)) Z (dR 1 Z (dq (.p (eB (!decide (lat a_0.C' i13=lat Tq.C' i13)))) [55,60] Z (λ _ e _ q=>ap Z (pG Z Z Z (e _ _ Z) (e _ _ Z) Z q)) Z (dE Z ?_))))))));exact ay
  exact ay
 exact ay
end Go.Ab.R06
end
section
namespace Go.Ab.R06
open Go.Proofs Go.Ab Go.Ab.RB
section
variable {p:Prop}
theorem Cd (h:p:=by
  exact nx 6 Z (eX _ (oi h3).symm (gE Z Z))):p:=h
theorem uc (h:p:=by exact ae O (aa Z)):p:=h
end
set_option maxRecDepth 4000
attribute [local irreducible] awp ik bg bO cv AV.sub M dc
instance QH:HE Tryz.prog 92:=⟨Tryz.call92⟩
instance Q5:HE Tryz.prog 93:=⟨Tryz.call93⟩
instance Qy:HE Tryz.prog 94:=⟨Tryz.call94⟩
instance QC:HE Tryz.prog 95:=⟨Tryz.call95⟩
instance QW:HE Tryz.prog 165:=⟨Tryz.call165⟩
instance QP:HE Tryz.prog 96:=⟨Tryz.call96⟩
instance QB:HE Tryz.prog 60:=⟨Tryz.call60⟩
instance Q6:HE Tryz.prog 97:=⟨Tryz.call97⟩
instance Rh:HE Tryz.prog 137:=⟨Tryz.call137⟩
instance QN:HE Tryz.prog 138:=⟨Tryz.call138⟩
instance Oh:HE Tryz.prog 63:=⟨Tryz.call63⟩
instance Ov:HE Tryz.prog 61:=⟨Tryz.call61⟩
instance ON:HE Tryz.prog 62:=⟨Tryz.call62⟩
instance PS:HE Tryz.prog 155:=⟨Tryz.call155⟩
instance PI:HE Tryz.prog 118:=⟨Tryz.call118⟩
abbrev zB (F:Bytes->Int->Int->Int->Option (Int×ao))(k:Nat):Prop:=∀ (a0:Bytes) (a1:Int) (a2:Int) (a3:Int) (r:Int×ao),HP (F a0 a1 a2 a3=some r) Tryz.prog k [eS a0,eI a1,eI a2,eI a3] (.tuple [.p (eI r.1),.p (.agg (ao.cs r.2))])
abbrev uw (F:Bytes->Int->Option (Int))(k:Nat):Prop:=∀ (a0:Bytes) (a1:Int) (r:Int),HP (F a0 a1=some r) Tryz.prog k [eS a0,eI a1] (.p (eI r))
abbrev fA:List AV:=[.p (eI 0),.p (eI 0),.p (eS ([]:Bytes))]
abbrev J9:List AV:=[.p (eI 0),.p (eS ([]:Bytes)),.p (eI 0)]
def gx (SR:Int)(N':Int):Option ao :=
 some (ao.mk SR N' ([]:Bytes))
instance Mc (SR:Int) (N':Int):∀ (r:ao),HP (gx SR N'=some r) Tryz.prog 60 [eI SR,eI N'] (.p (.agg (ao.cs r))):=by
 refine hP good Tryz.func60 Z Z λ r h0 _ w0=>?_;unfold gx at h0;exact J0
def dD (Mr:Bytes):Nat->Int->Option Int
 | 0,_=>none
 | m+1,at11 =>
 (
   if at11 < (Mr.length:Int) then
    ck ((0:Int)<=at11/\at11 < (Mr.length:Int)) <|
    if byt Mr at11=32 then
     some true
    else
     ck ((0:Int)<=at11/\at11 < (Mr.length:Int)) <|
     if byt Mr at11=9 then
      some true
     else
      ck ((0:Int)<=at11/\at11 < (Mr.length:Int)) <|
      some (decide (byt Mr at11=13))
   else
    some false
  ).bind λ t18 =>
 if t18=true then
  ck (inR (at11+1)) <|
  dD Mr m (at11+1)
 else
  some at11
def iW (n:Nat)(Mr:Bytes)(N':Int):Option Int :=
 (dD Mr n N').bind λ at22 =>
 some at22
instance Fj (n:Nat):uw (iW n) 92:=by
 refine λ Mr N'=>hP good Tryz.func92 Z Z λ r h0 _ w0=>?_;unfold iW at h0;refine nx 6 Z (bd h0 λ VY h1 h0=>kE 0 VY (λ VH=>⟨[(1,.p (eI VH))],[]⟩) ?_ ?_)
 ·exact J0
 refine lG (λ (Y3:Int)=>⟨[(0,.p (eS Mr)),(1,.p (eI Y3))],[]⟩) (λ m (Y3:Int)=>dD Mr m Y3) Y N' h1 (gE rfl rfl) ?_;rintro m at11 h1;replace h1:dD Mr (m+1) at11=some VY:=h1;rw [dD] at h1;have:=js [100];have:=jS 100 Bool λ v=>[(26,.p (eB v))]
 exact ay
def eV (Mr:Bytes):Nat->Int->Option Int
 | 0,_=>none
 | m+1,at13 =>
 (
   if at13 < (Mr.length:Int) then
    ck ((0:Int)<=at13/\at13 < (Mr.length:Int)) <|
    some (!decide (byt Mr at13=10))
   else
    some false
  ).bind λ TY =>
 if TY=true then
  ck (inR (at13+1)) <|
  eV Mr m (at13+1)
 else
  some at13
def my (n:Nat)(Mr:Bytes)(N':Int):Option Int :=
 (iW n Mr N').bind λ r1 =>
 (
   (
     if r1 < (Mr.length:Int) then
      ck ((0:Int)<=r1/\r1 < (Mr.length:Int)) <|
      some (decide (byt Mr r1=35))
     else
      some false
    ).bind λ t5 =>
   if t5=true then
    (eV Mr n r1).bind λ at20 =>
    some at20
   else
    some r1
  ).bind λ at21 =>
 some at21
instance La (n:Nat):uw (my n) 61:=by
 refine λ Mr N'=>hP good Tryz.func61 Z Z λ r h0 _ w0=>?_;unfold my at h0;refine nx 8 Z (K0 λ r1 h0=>nx 3 Z (bd h0 λ o26 h1 h0=>kN o26 (λ v27=>⟨[(1,.p (eI v27))],[]⟩) ?_ ?_))
 ·exact J0
 refine nx 1 Z (bd h1 λ o28 h2 h1=>kN o28 (λ v29=>⟨[(0,.p (eS Mr)),(1,.p (eI r1)),(17,.p (eB v29))],[]⟩) ?_ ?_)
 ·refine nx 1 Z (fB [17] h1 Z (λ c6 h1=>?_) λ c6 h1=>?_)
  ·refine nx 2 Z (bd h1 λ X4 h2 h1=>kE 0 X4 (λ WO=>⟨[(1,.p (eI WO))],[]⟩) ?_ ?_)
   ·exact ay
   refine lG (λ (q32:Int)=>⟨[(0,.p (eS Mr)),(1,.p (eI q32))],[]⟩) (λ m (q32:Int)=>eV Mr m q32) Y r1 h2 (gE rfl rfl) ?_;rintro m at13 h2;replace h2:eV Mr (m+1) at13=some X4:=h2;rw [eV] at h2;refine nx 2 rfl (bd h2 λ Y8 h3 h2=>kN Y8 (λ Yz=>⟨[(0,.p (eS Mr)),(1,.p (eI at13)),(27,.p (eB Yz))],[]⟩) ?_ ?_)
   ·exact bV
   refine nx 3 Z (oLs Z (nx 2 Z (fD [21,22] h3 Z (λ XV h3=>?_) λ XV h3=>?_)))
   ·exact nx 2 Z (oI h3 Z λ U4 h3=>nx 3 Z lA)
   exact Cd
  exact ay
 exact bV
def ij (S3:Int):Option Bool :=
 (
   if S3=95 then
    some true
   else
    if 97<=S3 then
     if S3<=122 then
      some true
     else
      if 65<=S3 then
       some (decide (S3<=90))
      else
       some false
    else
     if 65<=S3 then
      some (decide (S3<=90))
     else
      some false
  ).bind λ t6 =>
 some t6
instance Fh (S3:Int):∀ (r:Bool),HP (ij S3=some r) Tryz.prog 93 [eK .u8 S3] (.p (eB r)):=by
 refine hP good Tryz.func93 Z Z λ r h0 _ w0=>?_;unfold ij at h0;exact kb
def iL (S3:Int):Option Bool :=
 (
   if 48<=S3 then
    some (decide (S3<=57))
   else
    some false
  ).bind λ t2 =>
 some t2
instance HS (S3:Int):∀ (r:Bool),HP (iL S3=some r) Tryz.prog 94 [eK .u8 S3] (.p (eB r)):=by
 refine hP good Tryz.func94 Z Z λ r h0 _ w0=>?_;unfold iL at h0;exact kb
def eY (Mr:Bytes)(N':Int):Nat->Int->Option (Unit⊕Bytes)
 | 0,_=>none
 | m+1,i12 =>
 if i12 < (([([61,62]:Bytes),([61,61]:Bytes),([33,61]:Bytes),([60,61]:Bytes),([62,61]:Bytes),([38,38]:Bytes),([124,124]:Bytes)]).length:Int) then
  (
    ck (inR (N'+2)) <|
    if N'+2<=(Mr.length:Int) then
     ck (inR (N'+2)) <|
     ck ((0:Int)<=N'/\N'<=N'+2/\N'+2<=(Mr.length:Int)) <|
     ck ((0:Int)<=i12/\i12 < (([([61,62]:Bytes),([61,61]:Bytes),([33,61]:Bytes),([60,61]:Bytes),([62,61]:Bytes),([38,38]:Bytes),([124,124]:Bytes)]).length:Int)) <|
     some (decide (sub Mr N' (N'+2)=lat ([([61,62]:Bytes),([61,61]:Bytes),([33,61]:Bytes),([60,61]:Bytes),([62,61]:Bytes),([38,38]:Bytes),([124,124]:Bytes)]) i12))
    else
     some false
   ).bind λ Ue =>
  if Ue=true then
   ck ((0:Int)<=i12/\i12 < (([([61,62]:Bytes),([61,61]:Bytes),([33,61]:Bytes),([60,61]:Bytes),([62,61]:Bytes),([38,38]:Bytes),([124,124]:Bytes)]).length:Int)) <|
   some (.inr (lat ([([61,62]:Bytes),([61,61]:Bytes),([33,61]:Bytes),([60,61]:Bytes),([62,61]:Bytes),([38,38]:Bytes),([124,124]:Bytes)]) i12))
  else
   ck (inR (i12+1)) <|
   eY Mr N' m (i12+1)
 else
  some (.inl ())
def eT (Mr:Bytes)(N':Int):Nat->Int->Option (Unit⊕Bytes)
 | 0,_=>none
 | m+1,i32 =>
 if i32 < (([123,125,91,93,40,41,44,61,60,62,43,45,42,47,37,33,63,58,46]:Bytes).length:Int) then
  ck ((0:Int)<=N'/\N' < (Mr.length:Int)) <|
  ck ((0:Int)<=i32/\i32 < (([123,125,91,93,40,41,44,61,60,62,43,45,42,47,37,33,63,58,46]:Bytes).length:Int)) <|
  if byt Mr N'=byt ([123,125,91,93,40,41,44,61,60,62,43,45,42,47,37,33,63,58,46]:Bytes) i32 then
   ck (inR (N'+1)) <|
   ck ((0:Int)<=N'/\N'<=N'+1/\N'+1<=(Mr.length:Int)) <|
   some (.inr (sub Mr N' (N'+1)))
  else
   ck (inR (i32+1)) <|
   eT Mr N' m (i32+1)
 else
  some (.inl ())
def kB (n:Nat)(Mr:Bytes)(N':Int):Option Bytes :=
 jn (eY Mr N' n 0) λ _ZI =>
 jn (eT Mr N' n 0) λ _q43 =>
 some ([]:Bytes)
instance K9 (n:Nat) (Mr:Bytes) (N':Int):∀ (r:Bytes),HP (kB n Mr N'=some r) Tryz.prog 95 [eS Mr,eI N'] (.p (eS r)):=by
 refine hP good Tryz.func95 Z Z λ r h0 _ w0=>?_;unfold kB at h0;refine nx 6 rfl (mO rfl (aH eS [([61,62]:Bytes),([61,61]:Bytes),([33,61]:Bytes),([60,61]:Bytes),([62,61]:Bytes),([38,38]:Bytes),([124,124]:Bytes)] Z Z Z Z Z Z Z Z Z Z Z Z Z Z (nx 8 rfl ?_)));obtain ⟨WQ,h1,Tz,hR0⟩:=br h0;refine kEx 0 (λ WV:Unit=>WQ=.inl WV) (λ WV=>⟨[(0,.p (eS Mr)),(1,.p (eI N'))],[]⟩) (λ WV hv=>?_) ?_
 ·have h0:=Tz _ hv;refine nx 11 rfl ?_;obtain ⟨YJ,h1,Tz,hR0⟩:=br h0;refine kEx 2 (λ ZP:Unit=>YJ=.inl ZP) (λ ZP=>⟨[],[]⟩) (λ ZP hv=>?_) ?_
  ·exact fP
  refine lG (λ (Xw:Int)=>⟨[(0,.p (eS Mr)),(1,.p (eI N')),(7,.p (eS ([123,125,91,93,40,41,44,61,60,62,43,45,42,47,37,33,63,58,46]:Bytes))),(8,.p (eI Xw))],[]⟩) (λ m (Xw:Int)=>eT Mr N' m Xw) Y 0 h1 (gE rfl rfl) ?_;rintro m i32 h1;replace h1:eT Mr N' (m+1) i32=some YJ:=h1;rw [eT] at h1;refine nx 5 rfl (oLs rfl (nx 2 rfl (fD [40] h1 rfl (λ ZC h1=>?_) λ ZC h1=>?_)))
  ·refine nx 5 Z (cc' h1 λ Wx h1=>cc' h1 λ W6 h1=>mD [(0,.p (eS Mr)),(1,.p (eI N')),(7,.p (eS ([123,125,91,93,40,41,44,61,60,62,43,45,42,47,37,33,63,58,46]:Bytes))),(8,.p (eI i32))] Z ⟨Z,Z,Z,Z,trivial⟩ Z (dR 2 Z (dq (.p (eK .u8 (byt Mr N'))) [43,44] Z (λ _ e _ q=>ap Z (fq Z Z Z Z Z (e _ _ Z) (e _ _ Z) Wx q)) Z (dR 2 Z (dq (.p (eK .u8 (byt ([123,125,91,93,40,41,44,61,60,62,43,45,42,47,37,33,63,58,46]:Bytes) i32))) [46,47] Z (λ _ e _ q=>ap Z (fq Z Z Z Z Z (e _ _ Z) (e _ _ Z) W6 q)) Z (dR 1 Z ?_))))));exact ay
  exact ay
 refine lG (λ (Xv:Int)=>⟨[(0,.p (eS Mr)),(1,.p (eI N')),(5,.p (eL eS ([([61,62]:Bytes),([61,61]:Bytes),([33,61]:Bytes),([60,61]:Bytes),([62,61]:Bytes),([38,38]:Bytes),([124,124]:Bytes)]))),(6,.p (eI Xv))],[]⟩) (λ m (Xv:Int)=>eY Mr N' m Xv) Y 0 h1 (gE rfl rfl) ?_;rintro m i12 h1;replace h1:eY Mr N' (m+1) i12=some WQ:=h1;rw [eY] at h1;refine nx 5 rfl (oLl (f:=eS) rfl rfl (nx 2 rfl (fD [13] h1 rfl (λ XW h1=>?_) λ XW h1=>?_)))
 ·refine nx 5 Z (bd h1 λ Wu h2 h1=>kN Wu (λ v51=>⟨[(0,.p (eS Mr)),(1,.p (eI N')),(5,.p (eL eS ([([61,62]:Bytes),([61,61]:Bytes),([33,61]:Bytes),([60,61]:Bytes),([62,61]:Bytes),([38,38]:Bytes),([124,124]:Bytes)]))),(6,.p (eI i12)),(32,.p (eB v51))],[]⟩) ?_ ?_)
  ·exact ay
  refine cc' h2 λ Vs h2=>fD (p:=N'+2<=(Mr.length:Int)) [] h2 Z (λ XU h2=>?_) λ XU h2=>?_
  ·refine cc' h2 λ UL h2=>cc' h2 λ V8 h2=>cc' h2 λ Ut h2=>mD [(0,.p (eS Mr)),(1,.p (eI N')),(5,.p (eL eS ([([61,62]:Bytes),([61,61]:Bytes),([33,61]:Bytes),([60,61]:Bytes),([62,61]:Bytes),([38,38]:Bytes),([124,124]:Bytes)]))),(6,.p (eI i12))] Z ⟨Z,Z,Z,Z,trivial⟩ Z (dR 1 Z (dq (.p (eI (N'+2))) [16] Z (λ _ e _ q=>ap Z (fY Z Z Z (e _ _ Z) Z Z Vs q)) Z (dR 1 Z (dq (.p (eI (Mr.length:Int))) [18] Z (λ _ e _ q=>ap Z (oq Z Z Z Z Z (e _ _ Z) q)) Z (dL (dt XU) Z (dR 4 Z (dq (.p (eI (N'+2))) [21,24] Z (λ _ e _ q=>dB (fY Z Z Z (e _ _ Z) Z Z UL q) Z Z (e _ _ Z) (rfl)) Z (dq (.p (eS (sub Mr N' (N'+2)))) [21,22,23,25] Z (λ _ e _ q=>dB (fu (a:=Mr) (l:=N') (h:=N'+2) Z Z Z Z Z (e _ _ Z) pc (wB (e _ _ Z)) V8 q) Z Z (e _ _ Z) (rfl)) Z (dR 2 Z (dq (.rptr ([eS (lat ([([61,62]:Bytes),([61,61]:Bytes),([33,61]:Bytes),([60,61]:Bytes),([62,61]:Bytes),([38,38]:Bytes),([124,124]:Bytes)]) i12)])) [21,27,28] Z (λ _ e _ q=>dB (j5 (f:=eS) (l:=[([61,62]:Bytes),([61,61]:Bytes),([33,61]:Bytes),([60,61]:Bytes),([62,61]:Bytes),([38,38]:Bytes),([124,124]:Bytes)]) (λ x=>[eS x]) Z Z Z Z Z Z (e _ _ Z) Z (e _ _ Z) Ut Y Y q) Z Z (e _ _ Z) (rfl)) Z (dR 1 Z (dq (.p (eB (decide (sub Mr N' (N'+2)=lat ([([61,62]:Bytes),([61,61]:Bytes),([33,61]:Bytes),([60,61]:Bytes),([62,61]:Bytes),([38,38]:Bytes),([124,124]:Bytes)]) i12)))) [21,26,30] Z (λ _ e _ q=>dB (pG Z Z Z (e _ _ Z) (e _ _ Z) Z q) Z Z (e _ _ Z) (rfl)) Z (dR 1 Z ?_)))))))))))));exact bV
  refine mD [(0,.p (eS Mr)),(1,.p (eI N')),(5,.p (eL eS ([([61,62]:Bytes),([61,61]:Bytes),([33,61]:Bytes),([60,61]:Bytes),([62,61]:Bytes),([38,38]:Bytes),([124,124]:Bytes)]))),(6,.p (eI i12))] Z ⟨Z,Z,Z,Z,trivial⟩ Z (dR 1 Z (dq (.p (eI (N'+2))) [16] Z (λ _ e _ q=>ap Z (fY Z Z Z (e _ _ Z) Z Z Vs q)) Z (dR 1 Z (dq (.p (eI (Mr.length:Int))) [18] Z (λ _ e _ q=>ap Z (oq Z Z Z Z Z (e _ _ Z) q)) Z (dL (df XU) Z ?_)))));exact bV
 exact ay
def kd (n:Nat)(Mr:Bytes)(N':Int):Option Bool :=
 (
   ck ((0:Int)<=N'/\N' < (Mr.length:Int)) <|
   (ij (byt Mr N')).bind λ r2 =>
   if r2=true then
    some true
   else
    ck ((0:Int)<=N'/\N' < (Mr.length:Int)) <|
    (iL (byt Mr N')).bind λ r6 =>
    if r6=true then
     some true
    else
     ck ((0:Int)<=N'/\N' < (Mr.length:Int)) <|
     if byt Mr N'=34 then
      some true
     else
      ck ((0:Int)<=N'/\N' < (Mr.length:Int)) <|
      if byt Mr N'=10 then
       some true
      else
       (kB n Mr N').bind λ US =>
       some (!decide (US=([]:Bytes)))
  ).bind λ t15 =>
 some t15
instance Fq (n:Nat) (Mr:Bytes) (N':Int):∀ (r:Bool),HP (kd n Mr N'=some r) Tryz.prog 62 [eS Mr,eI N'] (.p (eB r)):=by
 refine hP good Tryz.func62 Z Z λ r h0 _ w0=>?_;unfold kd at h0;have:=js [100];have:=jS 100 Bool λ v=>[(4,.p (eB v))]
 exact J0
def fG (Mr:Bytes)(letters_2:Bool):Nat->Int->Option Int
 | 0,_=>none
 | m+1,at14 =>
 (
   if at14 < (Mr.length:Int) then
    ck ((0:Int)<=at14/\at14 < (Mr.length:Int)) <|
    (iL (byt Mr at14)).bind λ VJ =>
    if VJ=true then
     some true
    else
     if letters_2=true then
      ck ((0:Int)<=at14/\at14 < (Mr.length:Int)) <|
      (ij (byt Mr at14)).bind λ U' =>
      some U'
     else
      some false
   else
    some false
  ).bind λ Vw =>
 if Vw=true then
  ck (inR (at14+1)) <|
  fG Mr letters_2 m (at14+1)
 else
  some at14
def lO (n:Nat)(Mr:Bytes)(N':Int)(letters_2:Bool):Option Int :=
 (fG Mr letters_2 n N').bind λ at28 =>
 some at28
instance Na (n:Nat) (Mr:Bytes) (N':Int) (letters_2:Bool):∀ (r:Int),HP (lO n Mr N' letters_2=some r) Tryz.prog 96 [eS Mr,eI N',eB letters_2] (.p (eI r)):=by
 refine hP good Tryz.func96 Z Z λ r h0 _ w0=>?_;unfold lO at h0;refine nx 6 Z (bd h0 λ Xz h1 h0=>kE 0 Xz (λ Xb=>⟨[(1,.p (eI Xb))],[]⟩) ?_ ?_)
 ·exact J0
 refine lG (λ (X2:Int)=>⟨[(0,.p (eS Mr)),(1,.p (eI X2)),(2,.p (eB letters_2))],[]⟩) (λ m (X2:Int)=>fG Mr letters_2 m X2) Y N' h1 (gE rfl rfl) ?_;rintro m at14 h1;replace h1:fG Mr letters_2 (m+1) at14=some Xz:=h1;rw [fG] at h1;have:=js [100];have:=jS 100 Bool λ v=>[(25,.p (eB v))]
 exact ay
def eZ (Mr:Bytes)(to_2:Int):Nat->Int->Option (Unit⊕Bool)
 | 0,_=>none
 | m+1,i10 =>
 if i10 < to_2 then
  (
    ck ((0:Int)<=i10/\i10 < (Mr.length:Int)) <|
    if byt Mr i10 < 128 then
     some true
    else
     ck ((0:Int)<=i10/\i10 < (Mr.length:Int)) <|
     some (decide (191 < byt Mr i10))
   ).bind λ t15 =>
  if t15=true then
   some (.inr false)
  else
   ck (inR (i10+1)) <|
   eZ Mr to_2 m (i10+1)
 else
  some (.inl ())
def ju (n:Nat)(Mr:Bytes)(from_1:Int)(to_2:Int):Option Bool :=
 if (Mr.length:Int) < to_2 then
  some false
 else
  jn (eZ Mr to_2 n from_1) λ _q19 =>
  some true
instance Lo (n:Nat) (Mr:Bytes) (from_1:Int) (to_2:Int):∀ (r:Bool),HP (ju n Mr from_1 to_2=some r) Tryz.prog 165 [eS Mr,eI from_1,eI to_2] (.p (eB r)):=by
 refine hP good Tryz.func165 Z Z λ r h0 _ w0=>?_;unfold ju at h0;refine nx 9 Z (oLs Z (nx 2 Z (fD [11] h0 Z (λ c1 h0=>?_) λ c1 h0=>?_)))
 ·exact J0
 refine nx 9 rfl ?_;obtain ⟨Wg,h1,Tz,hR0⟩:=br h0;refine kEx 0 (λ YR:Unit=>Wg=.inl YR) (λ YR=>⟨[],[]⟩) (λ YR hv=>?_) ?_
 ·exact fP
 refine lG (λ (Wn:Int)=>⟨[(0,.p (eS Mr)),(2,.p (eI to_2)),(7,.p (eI Wn))],[]⟩) (λ m (Wn:Int)=>eZ Mr to_2 m Wn) Y from_1 h1 (gE rfl rfl) ?_;rintro m i10 h1;replace h1:eZ Mr to_2 (m+1) i10=some Wg:=h1;rw [eZ] at h1;have:=js [600];have:=jS 600 Bool λ v=>[(27,.p (eB v))]
 exact ay
def kS (n:Nat)(Mr:Bytes)(N':Int):Option Int :=
 ck ((0:Int)<=N'/\N' < (Mr.length:Int)) <|
 if byt Mr N' < 128 then
  some 1
 else
  (
    if 194<=byt Mr N' then
     if byt Mr N'<=223 then
      ck (inR (N'+1)) <|
      ck (inR (N'+2)) <|
      (ju n Mr (N'+1) (N'+2)).bind λ r7 =>
      some r7
     else
      some false
    else
     some false
   ).bind λ t9 =>
  if t9=true then
   some 2
  else
   (
     if 224<=byt Mr N' then
      if byt Mr N'<=239 then
       ck (inR (N'+1)) <|
       ck (inR (N'+3)) <|
       (ju n Mr (N'+1) (N'+3)).bind λ S5 =>
       if S5=true then
        if byt Mr N'=224 then
         ck (inR (N'+1)) <|
         ck ((0:Int)<=N'+1/\N'+1 < (Mr.length:Int)) <|
         if byt Mr (N'+1) < 160 then
          some false
         else
          if byt Mr N'=237 then
           ck (inR (N'+1)) <|
           ck ((0:Int)<=N'+1/\N'+1 < (Mr.length:Int)) <|
           some (!decide (159 < byt Mr (N'+1)))
          else
           some (!false)
        else
         if (!false)=true then
          if byt Mr N'=237 then
           ck (inR (N'+1)) <|
           ck ((0:Int)<=N'+1/\N'+1 < (Mr.length:Int)) <|
           some (!decide (159 < byt Mr (N'+1)))
          else
           some (!false)
         else
          some false
       else
        some false
      else
       some false
     else
      some false
    ).bind λ Z4 =>
   if Z4=true then
    some 3
   else
    (
      if 240<=byt Mr N' then
       if byt Mr N'<=244 then
        ck (inR (N'+1)) <|
        ck (inR (N'+4)) <|
        (ju n Mr (N'+1) (N'+4)).bind λ Xd =>
        if Xd=true then
         if byt Mr N'=240 then
          ck (inR (N'+1)) <|
          ck ((0:Int)<=N'+1/\N'+1 < (Mr.length:Int)) <|
          if byt Mr (N'+1) < 144 then
           some false
          else
           if byt Mr N'=244 then
            ck (inR (N'+1)) <|
            ck ((0:Int)<=N'+1/\N'+1 < (Mr.length:Int)) <|
            some (!decide (143 < byt Mr (N'+1)))
           else
            some (!false)
         else
          if (!false)=true then
           if byt Mr N'=244 then
            ck (inR (N'+1)) <|
            ck ((0:Int)<=N'+1/\N'+1 < (Mr.length:Int)) <|
            some (!decide (143 < byt Mr (N'+1)))
           else
            some (!false)
          else
           some false
        else
         some false
       else
        some false
      else
       some false
     ).bind λ t49 =>
    if t49=true then
     some 4
    else
     some 0
instance Gr (n:Nat):uw (kS n) 138:=by
 refine λ Mr N'=>hP good Tryz.func138 Z Z λ r h0 _ w0=>?_;unfold kS at h0;have:=js [400,600,800];have:=jS 400 Bool λ v=>[(12,.p (eB v))]
 have:=jS 600 Bool λ v=>[(27,.p (eB v))]
 have:=jS 800 Bool λ v=>[(66,.p (eB v))]
 exact J0
def dd (n:Nat)(Uh:Bytes->Int->Int->Int->Option (Int×ao))(Mr:Bytes)(SN:Int)(SL:Int):Nat->Int->Option (Unit⊕(Int×ao))
 | 0,_=>none
 | m+1,at43 =>
 if at43 < (Mr.length:Int) then
  jn (
    ck ((0:Int)<=at43/\at43 < (Mr.length:Int)) <|
    if byt Mr at43=34 then
     some (.inr (.inr (at43,(ao.mk 0 0 ([]:Bytes)))))
    else
     (
       ck (inR (at43+3)) <|
       if at43+3<=(Mr.length:Int) then
        ck (inR (at43+3)) <|
        ck ((0:Int)<=at43/\at43<=at43+3/\at43+3<=(Mr.length:Int)) <|
        some (decide (sub Mr at43 (at43+3)=([36,36,123]:Bytes)))
       else
        some false
      ).bind λ t51 =>
     if t51=true then
      ck (inR (at43+3)) <|
      some (.inl (at43+3))
     else
      (
        ck (inR (at43+2)) <|
        if at43+2<=(Mr.length:Int) then
         ck (inR (at43+2)) <|
         ck ((0:Int)<=at43/\at43<=at43+2/\at43+2<=(Mr.length:Int)) <|
         some (decide (sub Mr at43 (at43+2)=([36,123]:Bytes)))
        else
         some false
       ).bind λ t58 =>
      if t58=true then
       if 32<=SN then
        (gx 4 at43).bind λ TO =>
        some (.inr (.inr (0,TO)))
       else
        ck (inR (at43+2)) <|
        ck (inR (SN+1)) <|
        (Uh Mr (at43+2) (SN+1) SL).bind λ r65 =>
        if r65.2.Ar=0 then
         some (.inl r65.1)
        else
         some (.inr (.inr (0,r65.2)))
      else
       jn (
         ck ((0:Int)<=at43/\at43 < (Mr.length:Int)) <|
         if byt Mr at43=92 then
          ck (inR (at43+1)) <|
          if (Mr.length:Int)<=at43+1 then
           some (.inr (.inr (.inl ())))
          else
           some (.inl (at43+1))
         else
          some (.inl at43)
        : Option (Int⊕(Int⊕(Unit⊕(Int×ao))))) λ at72 =>
       (kS n Mr at72).bind λ Uu =>
       (
         if Uu=0 then
          some true
         else
          ck ((0:Int)<=at72/\at72 < (Mr.length:Int)) <|
          if byt Mr at72 < 32 then
           some true
          else
           ck ((0:Int)<=at72/\at72 < (Mr.length:Int)) <|
           some (decide (byt Mr at72=127))
        ).bind λ t79 =>
       if t79=true then
        (gx 2 at72).bind λ r81 =>
        some (.inr (.inr (0,r81)))
       else
        ck (inR (at72+Uu)) <|
        some (.inl (at72+Uu))
   : Option (Int⊕(Unit⊕(Int×ao)))) λ at84 =>
  dd n Uh Mr SN SL m at84
 else
  some (.inl ())
def cq (n:Nat)(U5:Bytes->Int->Int->Int->Option (ac×Int×ao))(Mr:Bytes)(SN:Int)(SL:Int):Nat->Int->Int->Option (Unit⊕(Int×ao))
 | 0,_,_=>none
 | m+1,at21,open22 =>
 if at21<=(Mr.length:Int) then
  (iW n Mr at21).bind λ Vq =>
  if (Mr.length:Int)<=Vq then
   some (.inl ())
  else
   (U5 Mr Vq SN SL).bind λ Ua =>
   if Ua.2.2.Ar=0 then
    jn (
      (
        if Ua.1.Ar=4 then
         some (decide (Ua.1.B'=([125]:Bytes)))
        else
         some false
       ).bind λ t31 =>
      if t31=true then
       if open22=0 then
        some (.inr (.inr (Ua.2.1,(ao.mk 0 0 ([]:Bytes)))))
       else
        ck (inR (open22 - 1)) <|
        some (.inl (open22 - 1))
      else
       some (.inl open22)
     : Option (Int⊕(Unit⊕(Int×ao)))) λ open35 =>
    (
      (
        if Ua.1.Ar=4 then
         some (decide (Ua.1.B'=([123]:Bytes)))
        else
         some false
       ).bind λ t37 =>
      if t37=true then
       ck (inR (open35+1)) <|
       some (open35+1)
      else
       some open35
     ).bind λ open40 =>
    cq n U5 Mr SN SL m Ua.2.1 open40
   else
    some (.inr (0,Ua.2.2))
 else
  some (.inl ())
mutual
def dV:Nat->Bytes->Int->Int->Int->Option (ac×Int×ao)
 | 0,_,_,_,_=>none
 | n+1,Mr,N',SN,SL =>
 ck ((0:Int)<=N'/\N' < (Mr.length:Int)) <|
 if byt Mr N'=10 then
  ck (inR (N'+1)) <|
  some ((ac.mk 5 ([10]:Bytes) N'),N'+1,(ao.mk 0 0 ([]:Bytes)))
 else
  (ij (byt Mr N')).bind λ r4 =>
  if r4=true then
   (lO n Mr N' true).bind λ r7 =>
   ck (inR (r7 - N')) <|
   if 64 < r7 - N' then
    (gx 7 N').bind λ VU =>
    some ((ac.mk 0 ([]:Bytes) 0),0,VU)
   else
    ck ((0:Int)<=N'/\N'<=r7/\r7<=(Mr.length:Int)) <|
    some ((ac.mk 1 (sub Mr N' r7) N'),r7,(ao.mk 0 0 ([]:Bytes)))
  else
   (iL (byt Mr N')).bind λ Xf =>
   if Xf=true then
    (lO n Mr N' false).bind λ VJ =>
    ck ((0:Int)<=N'/\N'<=VJ/\VJ<=(Mr.length:Int)) <|
    some ((ac.mk 2 (sub Mr N' VJ) N'),VJ,(ao.mk 0 0 ([]:Bytes)))
   else
    if byt Mr N'=34 then
     (
       if SN=0 then
        some N'
       else
        some SL
      ).bind λ quote22 =>
     ck (inR (N'+1)) <|
     ((kz n) Mr (N'+1) SN quote22).bind λ Vq =>
     if Vq.2.Ar=0 then
      ck (inR (N'+1)) <|
      ck ((0:Int)<=N'+1/\N'+1<=Vq.1/\Vq.1<=(Mr.length:Int)) <|
      ck (inR (Vq.1+1)) <|
      some ((ac.mk 3 (sub Mr (N'+1) Vq.1) N'),Vq.1+1,(ao.mk 0 0 ([]:Bytes)))
     else
      some ((ac.mk 0 ([]:Bytes) 0),0,Vq.2)
    else
     (kB n Mr N').bind λ Wk =>
     if Wk=([]:Bytes) then
      (gx 2 N').bind λ Vo =>
      some ((ac.mk 0 ([]:Bytes) 0),0,Vo)
     else
      ck (inR (N'+(Wk.length:Int))) <|
      some ((ac.mk 4 Wk N'),N'+(Wk.length:Int),(ao.mk 0 0 ([]:Bytes)))
def kz:Nat->Bytes->Int->Int->Int->Option (Int×ao)
 | 0,_,_,_,_=>none
 | n+1,Mr,N',SN,SL =>
 jn (dd n (dT n) Mr SN SL n N') λ _Wc =>
 (gx 40 SL).bind λ r86 =>
 some (0,r86)
def dT:Nat->Bytes->Int->Int->Int->Option (Int×ao)
 | 0,_,_,_,_=>none
 | n+1,Mr,N',SN,SL =>
 jn (cq n (dV n) Mr SN SL n N' 0) λ _q45 =>
 (gx 40 SL).bind λ UR =>
 some (0,UR)
end
theorem vu (n:Nat):(∀ (Mr:Bytes) (N':Int) (SN:Int) (SL:Int) (r:ac×Int×ao),HP (dV n Mr N' SN SL=some r) Tryz.prog 63 [eS Mr,eI N',eI SN,eI SL] (.tuple [.p (.agg (ac.cs r.1)),.p (eI r.2.1),.p (.agg (ao.cs r.2.2))]))/\zB (kz n) 97/\zB (dT n) 137:=by
 induction n with
 | zero=>exact Zr
 | succ n ih =>
 obtain ⟨_,_,_⟩:=ih;refine ⟨?_,?_,?_⟩
 ·refine λ Mr N' SN SL=>hP good Tryz.func63 Z Z λ r h0 _ w0=>?_;rw [dV] at h0;refine nx 10 Z (oI h0 Z λ W8 h0=>nx 8 Z (fD [21] h0 Z (λ c2 h0=>?_) λ c2 h0=>?_))
  ·exact J0
  refine nx 6 Z (K0 λ r4 h0=>nx 1 Z (fB [28] h0 Z (λ c6 h0=>?_) λ c6 h0=>?_))
  ·exact J0
  refine nx 6 Z (K0 λ Xf h0=>nx 1 Z (fB [48] h0 Z (λ ZF h0=>?_) λ ZF h0=>?_))
  ·exact J0
  refine nx 8 Z (fD [61] h0 Z (λ c20 h0=>?_) λ c20 h0=>?_)
  ·refine nx 2 Z (bd h0 λ o37 h1 h0=>kN o37 (λ v38=>⟨[(0,.p (eS Mr)),(1,.p (eI N')),(2,.p (eI SN)),(3,.p (eI v38)),(8,.ptr 8 0),(10,.ptr 10 0)],[(8,J9),(10,fA)]⟩) ?_ ?_)
   ·exact J0
   exact ay
  exact J0
 ·refine λ Mr N' SN SL=>hP good Tryz.func97 Z Z λ r h0 _ w0=>?_;rw [kz] at h0;refine nx 7 rfl ?_;obtain ⟨o94,h1,Tz,hR0⟩:=br h0;refine kEx 0 (λ v95:Unit=>o94=.inl v95) (λ v95=>⟨[(3,.p (eI SL)),(9,.ptr 9 0)],[(9,fA)]⟩) (λ v95 hv=>?_) ?_
  ·exact fP
  refine lG (λ (q96:Int)=>⟨[(0,.p (eS Mr)),(1,.p (eI q96)),(2,.p (eI SN)),(3,.p (eI SL)),(9,.ptr 9 0)],[(9,fA)]⟩) (λ m (q96:Int)=>dd n (dT n) Mr SN SL m q96) Y N' h1 (gE rfl rfl) ?_;rintro m at43 h1;replace h1:dd n (dT n) Mr SN SL (m+1) at43=some o94:=h1;rw [dd] at h1;refine nx 5 rfl (oLs rfl (nx 2 rfl (fD [16] h1 rfl (λ c44 h1=>?_) λ c44 h1=>?_)))
  ·refine nx 2 rfl ?_;obtain ⟨o97,h2,hL1,hR1⟩:=br h1;refine kX (λ ZH:Int=>o97=.inl ZH) (λ ZH=>⟨[(0,.p (eS Mr)),(1,.p (eI ZH)),(2,.p (eI SN)),(3,.p (eI SL)),(9,.ptr 9 0)],[(9,fA)]⟩) (λ ZH hv=>?_) ?_
   ·have h1:=hL1 _ hv;exact ay
   refine nx 6 Z (oI h2 Z λ aao h2=>nx 2 Z (fD [20] h2 Z (λ c46 h2=>?_) λ c46 h2=>?_))
   ·exact bV
   refine nx 4 Z (bd h2 λ o99 h3 h2=>kN o99 (λ v100=>⟨[(0,.p (eS Mr)),(1,.p (eI at43)),(2,.p (eI SN)),(3,.p (eI SL)),(9,.ptr 9 0),(35,.p (eB v100))],[(9,fA)]⟩) ?_ ?_)
   ·refine nx 1 Z (fB [35] h2 Z (λ c52 h2=>?_) λ c52 h2=>?_)
    ·exact bV
    refine nx 4 Z (bd h2 λ o101 h3 h2=>kN o101 (λ v102=>⟨[(0,.p (eS Mr)),(1,.p (eI at43)),(2,.p (eI SN)),(3,.p (eI SL)),(9,.ptr 9 0),(50,.p (eB v102))],[(9,fA)]⟩) ?_ ?_)
    ·refine nx 1 Z (fB [50] h2 Z (λ c59 h2=>?_) λ c59 h2=>?_)
     ·exact bV
     refine nx 3 rfl ?_;obtain ⟨o103,h3,hL2,hR2⟩:=br h2;refine kX (λ Xm:Int=>o103=.inl Xm) (λ Xm=>⟨[(0,.p (eS Mr)),(1,.p (eI Xm)),(2,.p (eI SN)),(3,.p (eI SL)),(9,.ptr 9 0)],[(9,fA)]⟩) (λ Xm hv=>?_) ?_
     ·have h2:=hL2 _ hv;refine nx 5 Z (K2 λ Uu h2=>nx 4 Z (bd h2 λ o105 h3 h2=>kN o105 (λ v106=>⟨[(0,.p (eS Mr)),(1,.p (eI Xm)),(2,.p (eI SN)),(3,.p (eI SL)),(9,.ptr 9 0),(12,.p (eI Uu)),(96,.p (eB v106))],[(9,fA)]⟩) ?_ ?_))
      ·exact bV
      refine nx 4 Z (fD [84,85] h3 Z (λ c75 h3=>?_) λ c75 h3=>?_)
      ·exact nx 12 Z lA
      refine nx 2 Z (oI h3 Z λ hk76 h3=>nx 3 Z (fD [89,90,91] h3 Z (λ c77 h3=>?_) λ c77 h3=>?_))
      ·exact Cd
      exact nx 2 Z (oI h3 Z λ hk78 h3=>nx 3 Z lA)
     refine nx 4 Z (oI h3 Z λ aah h3=>nx 2 Z (fD [73] h3 Z (λ c69 h3=>?_) λ c69 h3=>?_))
     ·refine nx 4 Z (oA h3 Z Z λ aag h3=>nx 6 Z (oLs Z (nx 2 Z (fD [79] h3 Z (λ c71 h3=>?_) λ c71 h3=>?_))))
      ·exact nx 2 Z (eXi _ (hR1 _ (hR2 _ (oi h3).symm).symm).symm (gE Z Z))
      exact mi
     exact mi
    refine nx 2 Z (oA h3 Z Z λ W4 h3=>nx 1 Z (oLs Z (nx 2 Z (fD [42,43] h3 Z (λ c55 h3=>?_) λ c55 h3=>?_))))
    ·exact nx 3 Z (oA h3 Z Z λ Zi h3=>oP h3 Z Z Z λ W3 h3=>oS Z Z JP)
    exact xt
   refine nx 2 Z (oA h3 Z Z λ Yq h3=>nx 1 Z (oLs Z (nx 2 Z (fD [27,28] h3 Z (λ c48 h3=>?_) λ c48 h3=>?_))))
   ·exact nx 3 Z (oA h3 Z Z λ Zj h3=>oP h3 Z Z Z λ XD h3=>oS Z Z JP)
   exact xt
  exact ay
 ·refine λ Mr N' SN SL=>hP good Tryz.func137 Z Z λ r h0 _ w0=>?_;rw [dT] at h0;refine nx 11 rfl ?_;obtain ⟨Wu,h1,Tz,hR0⟩:=br h0;refine kEx 0 (λ v51:Unit=>Wu=.inl v51) (λ v51=>⟨[(3,.p (eI SL)),(9,.ptr 9 0)],[(9,fA)]⟩) (λ v51 hv=>?_) ?_
  ·exact fP
  refine lG (λ (V4:Int×Int)=>⟨[(0,.p (eS Mr)),(1,.p (eI V4.1)),(2,.p (eI SN)),(3,.p (eI SL)),(9,.ptr 9 0),(10,.p (eI V4.2))],[(9,fA)]⟩) (λ m (V4:Int×Int)=>cq n (dV n) Mr SN SL m V4.1 V4.2) Y (N',0) h1 (gE rfl rfl) ?_;rintro m ⟨at21,open22⟩ h1;replace h1:cq n (dV n) Mr SN SL (m+1) at21 open22=some Wu:=h1;rw [cq] at h1;refine nx 5 rfl (oLs rfl (nx 2 rfl (fD [17] h1 rfl (λ VZ h1=>?_) λ VZ h1=>?_)))
  ·refine nx 7 Z (K1 λ Vq h1=>nx 7 Z (oLs Z (nx 2 Z (fD [24] h1 Z (λ Yx h1=>?_) λ Yx h1=>?_))))
   ·exact ay
   refine nx 8 Z (K1 λ Ua h1=>nx 17 Z (fN [36] h1 Z (λ c29 h1=>?_) λ c29 h1=>?_))
   ·refine nx 2 rfl (mG (gE (t:=⟨[(0,.p (eS Mr)),(2,.p (eI SN)),(3,.p (eI SL)),(9,.ptr 9 0),(10,.p (eI open22)),(11,.ptr 11 0),(12,.p (eI Ua.2.1))],[(9,fA),(11,(ac.cs Ua.1).map .p)]⟩) Z Z) (nx 1 rfl ?_));obtain ⟨We,h2,hL1,hR1⟩:=br h1;refine kX (λ Xl:Int=>We=.inl Xl) (λ Xl=>⟨[(0,.p (eS Mr)),(2,.p (eI SN)),(3,.p (eI SL)),(9,.ptr 9 0),(10,.p (eI Xl)),(11,.ptr 11 0),(12,.p (eI Ua.2.1))],[(9,fA),(11,(ac.cs Ua.1).map .p)]⟩) (λ Xl hv=>?_) ?_
    ·have h1:=hL1 _ hv;have:=js [1201,1200];have:=jS 1201 Int λ v=>[(10,.p (eI v))]
     have:=jS 1200 Bool λ v=>[(59,.p (eB v))]
     exact ay
    refine nx 1 Z (bd h2 λ o59 h3 h2=>kN o59 (λ v60=>⟨[(0,.p (eS Mr)),(2,.p (eI SN)),(3,.p (eI SL)),(9,.ptr 9 0),(10,.p (eI open22)),(11,.ptr 11 0),(12,.p (eI Ua.2.1)),(45,.p (eB v60))],[(9,fA),(11,(ac.cs Ua.1).map .p)]⟩) ?_ ?_)
    ·exact bV
    refine nx 5 Z (fD [40,41] h3 Z (λ ZE h3=>?_) λ ZE h3=>?_)
    ·exact nx 2 Z Ay
    exact BD
   exact ay
  exact ay
instance Mv (n:Nat):∀ (Mr:Bytes) (N':Int) (SN:Int) (SL:Int) (r:ac×Int×ao),HP (dV n Mr N' SN SL=some r) Tryz.prog 63 [eS Mr,eI N',eI SN,eI SL] (.tuple [.p (.agg (ac.cs r.1)),.p (eI r.2.1),.p (.agg (ao.cs r.2.2))]):=(vu n).1
def fW (n:Nat)(Mr:Bytes):Nat->(List ac)->Int->Option (Int⊕((List ac)×ao))
 | 0,_,_=>none
 | m+1,Tu,at24 =>
 if at24<=(Mr.length:Int) then
  (my n Mr at24).bind λ TR =>
  (
    if 16384<=(Tu.length:Int) then
     if (Mr.length:Int)<=TR then
      some true
     else
      (kd n Mr TR).bind λ Wk =>
      some Wk
    else
     some false
   ).bind λ t32 =>
  if t32=true then
   (gx 14 TR).bind λ Te =>
   some (.inr ([],Te))
  else
   if (Mr.length:Int)<=TR then
    ck ((Tu.length+([(ac.mk 6 ([]:Bytes) TR)]).length)*32<=140737488355328) <|
    some (.inr (Tu++([(ac.mk 6 ([]:Bytes) TR)]),(ao.mk 0 0 ([]:Bytes))))
   else
    (dV n Mr TR 0 TR).bind λ Un =>
    if Un.2.2.Ar=0 then
     ck ((Tu.length+[Un.1].length)*32<=140737488355328) <|
     fW n Mr m (Tu++[Un.1]) Un.2.1
    else
     some (.inr ([],Un.2.2))
 else
  some (.inl at24)
def lY (n:Nat)(Mr:Bytes):Option ((List ac)×ao) :=
 if 65536 < (Mr.length:Int) then
  (gx 3 0).bind λ r2 =>
  some ([],r2)
 else
  jn (fW n Mr n [] 0) λ at44 =>
  (gx 2 at44).bind λ V2 =>
  some ([],V2)
instance Lf (n:Nat) (Mr:Bytes):∀ (r:(List ac)×ao),HP (lY n Mr=some r) Tryz.prog 27 [eS Mr] (.tuple [.p (eL aF r.1),.p (.agg (ao.cs r.2))]):=by
 refine hP good Tryz.func27 Z Z λ r h0 _ w0=>?_;unfold lY at h0;refine nx 9 Z (oLs Z (nx 2 Z (fD [11] h0 Z (λ c1 h0=>?_) λ c1 h0=>?_)))
 ·exact J0
 refine nx 12 rfl ?_;obtain ⟨YI,h1,Tz,hR0⟩:=br h0;refine kEx 0 (λ WU:Int=>YI=.inl WU) (λ WU=>⟨[(3,.ptr 3 0),(5,.p (eI WU))],[(3,fA)]⟩) (λ WU hv=>?_) ?_
 ·exact fP
 refine lG (λ (T7:(List ac)×Int)=>⟨[(0,.p (eS Mr)),(3,.ptr 3 0),(4,.vec 61 3 0 (T7.1.map aF)),(5,.p (eI T7.2))],[(3,fA)]⟩) (λ m (T7:(List ac)×Int)=>fW n Mr m T7.1 T7.2) Y ([],0) h1 (dN (kU ⟨er rfl,er rfl,⟨_,rfl,AV.sub_nilvec _ _ _⟩,er rfl,trivial⟩ ⟨⟨_,rfl,⟨sr,sr,sr,trivial⟩⟩,trivial⟩)) ?_;rintro m ⟨Tu,at24⟩ h1;replace h1:fW n Mr (m+1) Tu at24=some YI:=h1;rw [fW] at h1;refine nx 5 rfl (oLs rfl (nx 2 rfl (fD [16] h1 rfl (λ c25 h1=>?_) λ c25 h1=>?_)))
 ·refine nx 7 Z (K1 λ TR h1=>nx 4 Z (bd h1 λ X3 h2 h1=>kN X3 (λ v53=>⟨[(0,.p (eS Mr)),(3,.ptr 3 0),(4,.vec 61 3 0 (Tu.map aF)),(5,.p (eI TR)),(33,.p (eB v53))],[(3,fA)]⟩) ?_ ?_))
  ·refine nx 1 Z (fB [33] h1 Z (λ ZC h1=>?_) λ ZC h1=>?_)
   ·exact ay
   refine nx 7 Z (oLs Z (nx 2 Z (fD [39] h1 Z (λ XS h1=>?_) λ XS h1=>?_)))
   ·refine nx 6 Z (mO Z (aH aF [(ac.mk 6 ([]:Bytes) TR)] Z Z Z Z Z Z Z Z Z Z Z Z Z uy ?_));refine cc' h1 λ Ww h1=>mO Z (dZ aF Tu ([(ac.mk 6 ([]:Bytes) TR)]) Z Z Z Z Z Z Z Z Z Z Z Z Z (λ x=>congrArg List.length (ac.It x)) Z Z Z Z Ww ?_);exact ay
   refine nx 7 Z (K1 λ Un h1=>nx 17 Z (fN [56] h1 Z (λ ZB h1=>?_) λ ZB h1=>?_))
   ·refine nx 6 Z (mO Z (aH aF [Un.1] Z Z Z Z Z Z Z Z Z Z Z Z Z uy ?_));refine cc' h1 λ VC h1=>mO Z (dZ aF Tu [Un.1] Z Z Z Z Z Z Z Z Z Z Z Z Z (λ x=>congrArg List.length (ac.It x)) Z Z Z Z VC ?_);exact ay
   exact ay
  exact bV
 exact ay
def iU (S3:Int):Option Bool :=
 (
   if 97<=S3 then
    if S3<=122 then
     some true
    else
     if 65<=S3 then
      if S3<=90 then
       some true
      else
       some (decide (S3=95))
     else
      some (decide (S3=95))
   else
    if 65<=S3 then
     if S3<=90 then
      some true
     else
      some (decide (S3=95))
    else
     some (decide (S3=95))
  ).bind λ t7 =>
 some t7
instance Fg (S3:Int):∀ (r:Bool),HP (iU S3=some r) Tryz.prog 155 [eK .u8 S3] (.p (eB r)):=by
 refine hP good Tryz.func155 Z Z λ r h0 _ w0=>?_;unfold iU at h0;exact kb
def cN (Mr:Bytes):Nat->Int->Option (Unit⊕Bool)
 | 0,_=>none
 | m+1,i20 =>
 if i20 < (Mr.length:Int) then
  (
    ck ((0:Int)<=i20/\i20 < (Mr.length:Int)) <|
    (iU (byt Mr i20)).bind λ Tp =>
    if (!Tp)=true then
     ck ((0:Int)<=i20/\i20 < (Mr.length:Int)) <|
     if byt Mr i20 < 48 then
      some true
     else
      ck ((0:Int)<=i20/\i20 < (Mr.length:Int)) <|
      some (decide (57 < byt Mr i20))
    else
     some false
   ).bind λ Z4 =>
  if Z4=true then
   some (.inr false)
  else
   ck (inR (i20+1)) <|
   cN Mr m (i20+1)
 else
  some (.inl ())
def gb (n:Nat)(Mr:Bytes):Option Bool :=
 (
   if Mr=([]:Bytes) then
    some true
   else
    if 64 < (Mr.length:Int) then
     some true
    else
     ck ((0:Int)<=0/\0 < (Mr.length:Int)) <|
     (iU (byt Mr 0)).bind λ r4 =>
     some (!r4)
  ).bind λ t6 =>
 if t6=true then
  some false
 else
  jn (cN Mr n 0) λ _q34 =>
  some true
instance Aa (n:Nat) (Mr:Bytes):∀ (r:Bool),HP (gb n Mr=some r) Tryz.prog 118 [eS Mr] (.p (eB r)):=by
 refine hP good Tryz.func118 Z Z λ r h0 _ w0=>?_;unfold gb at h0;refine nx 6 Z (bd h0 λ o36 h1 h0=>kN o36 (λ v37=>⟨[(0,.p (eS Mr)),(16,.p (eB v37))],[]⟩) ?_ ?_)
 ·refine nx 1 Z (fB [16] h0 Z (λ c7 h0=>?_) λ c7 h0=>?_)
  ·exact J0
  refine nx 8 rfl ?_;obtain ⟨o38,h1,Tz,hR0⟩:=br h0;refine kEx 0 (λ v39:Unit=>o38=.inl v39) (λ v39=>⟨[],[]⟩) (λ v39 hv=>?_) ?_
  ·exact fP
  refine lG (λ (Yj:Int)=>⟨[(0,.p (eS Mr)),(3,.p (eI Yj))],[]⟩) (λ m (Yj:Int)=>cN Mr m Yj) Y 0 h1 (gE rfl rfl) ?_;rintro m i20 h1;replace h1:cN Mr (m+1) i20=some o38:=h1;rw [cN] at h1;have:=js [600];have:=jS 600 Bool λ v=>[(39,.p (eB v))]
  exact ay
 exact ay
end Go.Ab.R06
end
section
namespace Go.Ab.R06
open Go.Ab Go.Ab.RB Go.Lib
section
variable {p:Prop}
theorem F4 (h:p:=by
 simp only [n6,decide_eq_true_eq] at w;have hw:=hlt1 1 O rfl;refine av (λ a=>ag (bv O O) (ag hw (av (λ b=>aa ?_) (λ b=>av (λ d=>ag (bv O O) (ag hw (aa ?_))) (λ d=>aa ?_))))) (λ a=>ae rfl (av (λ d=>ag (bv O O) (ag hw (aa ?_))) (λ d=>aa ?_)))
 ·symm; rw [decide_eq_false_iff_not]; omega
 ·omega
 ·symm; show _=true; rw [decide_eq_true_eq]; exact ⟨by omega,⟨by omega,w.2.1,w.2.2⟩,by omega,by omega⟩
 ·refine eqB ?_; rw [Bool.not_eq_true',decide_eq_false_iff_not,decide_eq_true_eq]; exact ⟨λ v=>⟨by omega,⟨by omega,w.2.1,w.2.2⟩,by omega,by omega⟩,λ v=>by omega⟩
 ·symm; show _=true; rw [decide_eq_true_eq]; exact ⟨by omega,⟨by omega,w.2.1,w.2.2⟩,by omega,by omega⟩):p:=h
theorem Bb (h:p:=by
 exact aj false (af (by unfold pz; simp) (aa Z)) (af G (aa Z))):p:=h
end
theorem Hl (e a:Int):gx e a=some (ao.mk e a []):=rfl
theorem uF (b:UInt8):Ev2 (λ _ _=>ij (b.toNat:Int)) (·=ji b):=by
 have h:=mq b;have hc:∀ x:Bool,(x=true↔(97<=b.toNat/\b.toNat<=122)\/(65<=b.toNat/\b.toNat<=90)\/b.toNat=95)->x=ji b:=λ x hx=>eqB (hx.trans h.symm);unfold ij;refine aj (ji b) (av (λ h1=>aa (hc _ ?_)) (λ h1=>av (λ h2=>av (λ h3=>aa (hc _ ?_)) (λ h3=>av (λ h4=>aa (hc _ ?_)) (λ h4=>aa (hc _ ?_)))) (λ h2=>av (λ h4=>aa (hc _ ?_)) (λ h4=>aa (hc _ ?_))))) (aa Z)
 all_goals (simp only [decide_eq_true_eq,true_iff,Bool.false_eq_true,false_iff]; omega)
theorem x6 (b:UInt8):Ev2 (λ _ _=>iL (b.toNat:Int)) (·=d3 b):=by
 have h:=jl b;have hc:∀ x:Bool,(x=true↔48<=b.toNat/\b.toNat<=57)->x=d3 b:=λ x hx=>eqB (hx.trans h.symm);unfold iL;refine aj (d3 b) (av (λ h1=>aa (hc _ ?_)) (λ h1=>aa (hc _ ?_))) (aa Z)
 all_goals (simp only [decide_eq_true_eq,Bool.false_eq_true,false_iff]; omega)
theorem vN (s:Bytes)(hs:s.length<=1000000000):∀ (l:Bytes),l <:+ s->Ev2 (λ _ m=>dD s m (pz s l)) (·=pz s (l.dropWhile gV))
 | [],_=>by
  refine aw ?_;simp only [dD];exact Bb
 | b::r,h=>by
  have S8:=iQ h;refine aw ?_;simp only [dD,gC h];refine aj (gV b) (ae S8.2 (ag S8 (av (λ q=>aa ?_) (λ q=>ag S8 (av (λ q2=>aa ?_) (λ q2=>ag S8 (aa ?_))))))) ?_
  ·symm; unfold gV; rw [decide_eq_true (show b.toNat=32 by omega)]; rfl
  ·symm; unfold gV; rw [decide_eq_true (show b.toNat=9 by omega)]; simp
  ·refine eqB ?_;simp only [gV,Bool.or_eq_true,decide_eq_true_eq]; omega
  ·cases hb:gV b
   ·rw [List.dropWhile_cons_of_neg qE];exact rL
   ·rw [List.dropWhile_cons_of_pos hb];refine ae rfl (ag aB ?_);rw [<- show pz s r=pz s (b::r)+1 from j1];exact vN s hs r (ek h)
theorem ze (s l:Bytes)(hs:s.length<=1000000000)(h:l <:+ s):Ev2 (λ n _=>iW n s (pz s l)) (·=pz s (l.dropWhile gV)):=by
 simp only [iW];exact aj _ (aN (f:=λ _ m=>dD s m (pz s l)) (vN s hs l h)) (aa rfl)
theorem zj (l:Bytes):fC false l=l.dropWhile gV:=by
 unfold fC
 cases l.dropWhile gV <;> rfl
theorem zv (s:Bytes)(hs:s.length<=1000000000):∀ (l:Bytes),l <:+ s->Ev2 (λ _ m=>eV s m (pz s l)) (·=pz s (l.dropWhile (λ x=>!decide (x=10))))
 | [],_=>by
  refine aw ?_;simp only [eV];exact Bb
 | b::r,h=>by
  have S8:=iQ h;have hb10:b=10↔b.toNat=10:=⟨λ q=>by rw [q]; rfl,λ q=>UInt8.toNat_inj.1 q⟩
  refine aw ?_;simp only [eV,gC h];refine aj (!decide (b=10)) (ae S8.2 (ag S8 (aa ?_))) ?_
  ·congr 1; refine eqB ?_; rw [decide_eq_true_eq,decide_eq_true_eq,hb10]; omega
  ·by_cases hb:b=10
   ·rw [List.dropWhile_cons_of_neg qE];exact af qE (aa rfl)
   ·rw [List.dropWhile_cons_of_pos qE];refine ae qE (ag aB ?_);rw [<- show pz s r=pz s (b::r)+1 from j1];exact zv s hs r (ek h)
theorem Qe (s l:Bytes)(hs:s.length<=1000000000)(h:l <:+ s):Ev2 (λ n _=>my n s (pz s l)) (·=pz s (fC true l)):=by
 simp only [my];refine aj _ (ze s l hs h) ?_;have h1:=(lz (p:=gV) l).trans h;unfold fC;generalize l.dropWhile gV=l1 at h1 ⊢
 cases l1 with
 | nil=>exact aj _ (aj false (af (by unfold pz; simp) (aa Z)) (af G (aa Z))) (aa Z)
 | cons b r =>
  have S8:=iQ h1;simp only [gC h1,Bool.true_and];refine aj (pz s (if decide (b.toNat=35)=true then (b::r).dropWhile (λ x=>!decide (x=10)) else b::r)) (aj (decide (b.toNat=35)) (ae S8.2 (ag S8 (aa ?_))) ?_) (aa Z)
  ·refine eqB ?_; rw [decide_eq_true_eq,decide_eq_true_eq]; omega
  ·by_cases hb:b.toNat=35
   ·rw [if_pos qB];exact ae qB (aj _ (aN (f:=λ _ m=>eV s m (pz s (b::r))) (zv s hs _ h1)) (aa rfl))
   ·rw [if_neg qB];exact af qB (aa rfl)
theorem y3 (l t:Bytes):(decide (t.length<=l.length)&&decide (l.take t.length=t))=hasPrefix l t:=by
 have:=hasPrefix_of_take l t;rw [<- this];congr 1;exact (Bool.beq_eq_decide_eq _ _).symm
theorem uj {s l:Bytes}(h:l <:+ s){k:Nat}(hk:k<=l.length):sub s (pz s l) (pz s l+(k:Int))=l.take k:=by
 rw [<- lH hk,pH h (List.drop_suffix _ _),ld];congr 1; omega
theorem yn (s l:Bytes)(hs:s.length<=1000000000)(h:l <:+ s):∀ (j k:Nat),k+j=7->Ev2 (λ _ m=>eY s (pz s l) m (k:Int)) (·=match (oo.drop k).find? (λ t=>hasPrefix l t) with | some t=>.inr t | none=>.inl ())
 | 0,k,hk=>by
  have:k=7:=by omega
  subst this;refine aw ?_;simp only [eY];exact rL
 | j+1,k,hk=>by
  have WS:k < oo.length:=by show k < 7; omega
  have hge:=tH h;have hle:=h.length_le;have hpl:pz s l+(l.length:Int)=s.length:=by unfold pz; omega
  refine aw ?_;simp only [eY];have e:lat ([([61,62]:Bytes),([61,61]:Bytes),([33,61]:Bytes),([60,61]:Bytes),([62,61]:Bytes),([38,38]:Bytes),([124,124]:Bytes)]) (k:Int)=oo[k]:=m9 oo k WS;have e7:([([61,62]:Bytes),([61,61]:Bytes),([33,61]:Bytes),([60,61]:Bytes),([62,61]:Bytes),([38,38]:Bytes),([124,124]:Bytes)]).length=7:=rfl
  have t2:(oo[k]).length=2:=by
   have:=py.1 (show oo.all (λ t=>t.length == 2)=true from rfl) _ (List.getElem_mem WS);exact eq_of_beq this
  simp only [e7,e];rw [List.drop_eq_getElem_cons WS,List.find?_cons];have hp:=y3 l oo[k];rw [t2] at hp;refine ae O (aj (hasPrefix l oo[k]) (ag aB (av (λ q=>ag aB (ag ⟨hge,by omega,by omega⟩ (ag O (aa ?_)))) (λ q=>aa ?_))) ?_)
  ·have h2:sub s (pz s l) (pz s l+2)=l.take 2:=uj h (k:=2) O;rw [<- hp,decide_eq_true (show 2<=l.length by omega),Bool.true_and];refine eqB ?_;rw [decide_eq_true_eq,decide_eq_true_eq,h2]
  ·rw [<- hp,decide_eq_false (show ¬ 2<=l.length by omega),Bool.false_and]
  ·cases hq:hasPrefix l oo[k]
   ·exact af G (ag aB (yn s l hs h j (k+1) O))
   ·exact ae Z (ag O (aa Z))
theorem index_drop {p:Bytes}{c:UInt8}{k:Nat}(hk:k < p.length)(Ta:p[k]≠c):(indexByte (p.drop k) c < 0↔indexByte (p.drop (k+1)) c < 0):=by
 rw [List.drop_eq_getElem_cons hk]
 conv=>lhs; unfold indexByte
 have hge:=indexByte_ge (p.drop (k+1)) c;rw [if_neg (by simpa using Ta)];by_cases q:indexByte (p.drop (k+1)) c=-1
 ·rw [if_pos (by simpa using q)]; omega
 ·rw [if_neg (by simpa using q)]; omega
theorem yH (s:Bytes)(hs:s.length<=1000000000){b:UInt8}{r:Bytes}(h:(b::r) <:+ s):∀ (j k:Nat),k+j=19->Ev2 (λ _ m=>eT s (pz s (b::r)) m (k:Int)) (·=if indexByte (me.drop k) b < 0 then .inl () else .inr [b])
 | 0,k,hk=>by
  have:k=19:=by omega
  subst this;refine aw ?_;simp only [eT];exact rL
 | j+1,k,hk=>by
  have WS:k < me.length:=by show k < 19; omega
  have S8:=iQ h;refine aw ?_;simp only [eT,gC h]
  have e:byt ([123,125,91,93,40,41,44,61,60,62,43,45,42,47,37,33,63,58,46]:Bytes) (k:Int)=((me[k]).toNat:Int):=by
   rw [cD];exact congrArg (λ x:UInt8=>(x.toNat:Int)) (by rw [List.getD_eq_getElem?_getD]; show (me[k]?).getD 0=_; rw [List.getElem?_eq_getElem WS]; rfl)
  have e19:([123,125,91,93,40,41,44,61,60,62,43,45,42,47,37,33,63,58,46]:Bytes).length=19:=rfl;simp only [e19,e];refine ae O (ag S8 (ag O ?_));by_cases hb:me[k]=b
  ·have hx:¬ indexByte (me.drop k) b < 0:=by
    rw [List.drop_eq_getElem_cons WS];unfold indexByte;rw [if_pos qB]; omega
   rw [if_neg hx];refine ae (by rw [hb]) (ag aB (ag ⟨S8.1,by omega,by omega⟩ (aa ?_)));have:=uj h (k:=1) G;exact congrArg Sum.inr this
  ·have hiff:=index_drop WS hb
   have e2:(if indexByte (me.drop k) b < 0 then Sum.inl () else Sum.inr [b]:Unit⊕Bytes)=if indexByte (me.drop (k+1)) b < 0 then Sum.inl () else Sum.inr [b]:=by
    by_cases q:indexByte (me.drop (k+1)) b < 0
    ·rw [if_pos q,if_pos (hiff.2 q)]
    ·rw [if_neg q,if_neg (λ w=>q (hiff.1 w))]
   rw [e2];refine af (λ q=>hb (UInt8.toNat_inj.1 O)) (ag aB ?_);exact yH s hs h j (k+1) O
theorem Ia (s:Bytes)(hs:s.length<=1000000000){b:UInt8}{r:Bytes}(h:(b::r) <:+ s):Ev2 (λ n _=>kB n s (pz s (b::r))) (·=iF (b::r)):=by
 simp only [kB];refine cj (aQ (aN (f:=λ _ m=>eY s (pz s (b::r)) m 0) (yn s (b::r) hs h 7 0 rfl)) λ x hx=>?_);subst hx;unfold iF;rw [List.drop_zero]
 cases oo.find? (λ t=>hasPrefix (b::r) t) with
 | some t=>rfl
 | none =>
  refine cj (aQ (aN (f:=λ _ m=>eT s (pz s (b::r)) m 0) (yH s hs h 19 0 Z)) λ x hx=>?_);subst hx;rw [List.drop_zero];simp only [rD];by_cases hn:indexByte me b < 0
  ·rw [if_pos hn,if_pos hn]; exact aa rfl
  ·rw [if_neg hn,if_neg hn]
theorem KV (s:Bytes)(hs:s.length<=1000000000){b:UInt8}{r:Bytes}(h:(b::r) <:+ s):Ev2 (λ n _=>kd n s (pz s (b::r))) (·=jf (b::r)):=by
 have S8:=iQ h;simp only [kd,gC h];rw [jI];refine aj _ (ag S8 (aj _ (uF b) ?_)) (aa Z)
 cases ji b
 ·refine af G (ag S8 (aj _ (x6 b) ?_))
  cases d3 b
  ·refine af G (ag S8 (av (λ q=>aa ?_) (λ q=>ag S8 (av (λ q2=>aa ?_) (λ q2=>aj _ (Ia s hs h) (aa ?_))))))
   ·rw [decide_eq_true (show b.toNat=34 by omega)]; rfl
   ·rw [decide_eq_true (show b.toNat=10 by omega)]; simp
   ·rw [decide_eq_false (show ¬ b.toNat=34 by omega),decide_eq_false (show ¬ b.toNat=10 by omega)]
    cases iF (b::r) <;> simp
  ·exact si
 ·exact si
theorem CR (s:Bytes)(hs:s.length<=1000000000)(c:Bool)(p:UInt8->Bool)(hp:∀ x,p x=(d3 x||(c&&ji x))):∀ (l:Bytes),l <:+ s->Ev2 (λ _ m=>fG s c m (pz s l)) (·=pz s (l.dropWhile p))
 | [],_=>by
  refine aw ?_;simp only [fG];exact Bb
 | b::r,h=>by
  have S8:=iQ h;refine aw ?_;simp only [fG,gC h];refine aj (p b) (ae S8.2 (ag S8 (aj _ (x6 b) ?_))) ?_
  ·rw [hp b]
   cases d3 b
   ·refine af G ?_
    cases c
    ·exact rL
    ·exact ae Z (ag S8 (aj _ (uF b) (aa G)))
   ·exact si
  ·cases hb:p b
   ·rw [List.dropWhile_cons_of_neg qE];exact rL
   ·rw [List.dropWhile_cons_of_pos hb];refine ae rfl (ag aB ?_);rw [<- show pz s r=pz s (b::r)+1 from j1];exact CR s hs c p hp r (ek h)
theorem Ns (s l:Bytes)(hs:s.length<=1000000000)(h:l <:+ s)(c:Bool)(p:UInt8->Bool)(hp:∀ x,p x=(d3 x||(c&&ji x))):Ev2 (λ n _=>lO n s (pz s l) c) (·=pz s (l.dropWhile p)):=by
 simp only [lO];exact aj _ (aN (f:=λ _ m=>fG s c m (pz s l)) (CR s hs c p hp l h)) (aa rfl)
def gN (b:Nat):Bool:=decide (128<=b)&&decide (b<=191)
def uL (n b0 b1 b2 b3:Nat):Nat :=
 if b0 < 128 then 1
 else if (194<=b0/\b0<=223)/\2<=n/\gN b1=true then 2
 else if (224<=b0/\b0<=239)/\(3<=n/\gN b1=true/\gN b2=true)/\¬ (b0=224/\b1 < 160)/\¬ (b0=237/\159 < b1) then 3
 else if (240<=b0/\b0<=244)/\(4<=n/\gN b1=true/\gN b2=true/\gN b3=true)/\¬ (b0=240/\b1 < 144)/\¬ (b0=244/\143 < b1) then 4
 else 0
theorem uU (b:Nat)(h:b < 256):gN b=true↔b / 64=2:=by
 simp only [gN,n6,decide_eq_true_eq]; omega
theorem Fb (n b0 b1 b2 b3:Nat)(h0:b0 < 256)(h1:b1 < 256)(h2:b2 < 256)(h3:b3 < 256)(_hn:1<=n) :
  (jz (decodeN n b0 b1 b2 b3)↔uL n b0 b1 b2 b3=0\/b0 < 32\/b0=127)/\(¬ jz (decodeN n b0 b1 b2 b3)->(decodeN n b0 b1 b2 b3).2=uL n b0 b1 b2 b3):=by
 unfold uL;simp only [uU _ h1,uU _ h2,uU _ h3];unfold jz decodeN
 repeat' split
 all_goals (refine ⟨?_,?_⟩ <;> dsimp only <;> omega)
def cAt (s:Bytes)(i:Nat):Bool:=gN (s.getD i 0).toNat
theorem yM (s:Bytes)(hs:s.length<=1000000000)(e:Nat)(ht:e<=s.length):∀ (j i:Nat),i+j=e->Ev2 (λ _ m=>eZ s (e:Int) m (i:Int)) (·=if ko (cAt s) i j=true then .inl () else .inr false)
 | 0,i,hi=>by
  refine aw ?_;simp only [eZ];exact uN
 | j+1,i,hi=>by
  have hb:byt s (i:Int)=((s.getD i 0).toNat:Int):=cD s i;refine aw ?_;simp only [eZ,hb];refine ae O (aj (!cAt s i) (ag O (av (λ q=>aa ?_) (λ q=>ag O (aa ?_)))) ?_)
  ·have:cAt s i=false:=by
    unfold cAt gN; rw [decide_eq_false (show ¬ 128<=(s.getD i 0).toNat by omega),Bool.false_and]
   rw [this]; rfl
  ·unfold cAt gN;rw [decide_eq_true (show 128<=(s.getD i 0).toNat by omega),Bool.true_and];refine eqB ?_;rw [decide_eq_true_eq,Bool.not_eq_true',decide_eq_false_iff_not]; omega
  ·rw [show ko (cAt s) i (j+1)=(cAt s i&&ko (cAt s) (i+1) j) from rfl]
   cases cAt s i
   ·exact si
   ·refine af G (ag aB ?_);rw [Bool.true_and];exact yM s hs e ht j (i+1) O
theorem A3 (s:Bytes)(hs:s.length<=1000000000)(i j:Nat){a b:Int}(ha:a=(i:Int))(hb:b=((i+j:Nat):Int)):Ev2 (λ n _=>ju n s a b) (·=(decide (i+j<=s.length)&&ko (cAt s) i j)):=by
 subst ha hb;simp only [ju];by_cases h:i+j<=s.length
 ·rw [decide_eq_true h,Bool.true_and];refine af O (cj (aQ (aN (f:=λ _ m=>eZ s ((i+j:Nat):Int) m (i:Int)) (yM s hs (i+j) h j i rfl)) λ x hx=>?_));subst hx
  cases ko (cAt s) i j
  ·rfl
  ·exact aa Z
 ·rw [decide_eq_false h,Bool.false_and];exact rN
theorem HV {s l:Bytes}(h:l <:+ s)(j:Nat):s.getD (s.length - l.length+j) 0=l.getD j 0:=by
 have h1:=qR h;rw [List.getD_eq_getElem?_getD,List.getD_eq_getElem?_getD,<- h1,List.getElem?_drop,h1]
def wid (l:Bytes):Nat:=uL l.length (l.getD 0 0).toNat (l.getD 1 0).toNat (l.getD 2 0).toNat (l.getD 3 0).toNat
theorem L9 {l:Bytes}(h:l≠[]):(jz (decodeL l)↔wid l=0\/(l.getD 0 0).toNat < 32\/(l.getD 0 0).toNat=127)/\(¬ jz (decodeL l)->(decodeL l).2=wid l):=by
 have hl:0 < l.length:=List.length_pos_iff.2 h;rw [decodeL_N];exact Fb l.length _ _ _ _ (UInt8.toNat_lt _) (UInt8.toNat_lt _) (UInt8.toNat_lt _) (UInt8.toNat_lt _) O
theorem L4 (s:Bytes)(hs:s.length<=1000000000){c:UInt8}{t:Bytes}(h:(c::t) <:+ s):Ev2 (λ n _=>kS n s (pz s (c::t))) (·=(wid (c::t):Int)):=by
 have S8:=iQ h;have hle:=h.length_le;have hN:=va h;obtain ⟨i,hi⟩:∃ i,i=s.length - (c::t).length:=⟨_,rfl⟩
 rw [<- hi] at hN;have hil:i+(c::t).length=s.length:=by omega
 have hg:∀ j,s.getD (i+j) 0=(c::t).getD j 0:=λ j=>by rw [hi]; exact HV h j
 have e0:(c::t).getD 0 0=c:=rfl;have e1:byt s (pz s (c::t)+1)=(((c::t).getD 1 0).toNat:Int):=by rw [hN,<- hg 1]; exact cD s (i+1)
 have c1:cAt s (i+1)=gN ((c::t).getD 1 0).toNat:=by unfold cAt; rw [hg 1]
 have c2:cAt s (i+2)=gN ((c::t).getD 2 0).toNat:=by unfold cAt; rw [hg 2]
 have c3:cAt s (i+3)=gN ((c::t).getD 3 0).toNat:=by unfold cAt; rw [hg 3]
 have T1:=A3 s hs (i+1) 1 (a:=pz s (c::t)+1) (b:=pz s (c::t)+2) O O;have T2:=A3 s hs (i+1) 2 (a:=pz s (c::t)+1) (b:=pz s (c::t)+3) O O;have T3:=A3 s hs (i+1) 3 (a:=pz s (c::t)+1) (b:=pz s (c::t)+4) O O;rw [show ko (cAt s) (i+1) 1=(cAt s (i+1)&&true) from rfl] at T1;rw [show ko (cAt s) (i+1) 2=(cAt s (i+1)&&(cAt s (i+2)&&true)) from rfl] at T2;rw [show ko (cAt s) (i+1) 3=(cAt s (i+1)&&(cAt s (i+2)&&(cAt s (i+3)&&true))) from rfl] at T3;rw [c1,Bool.and_true] at T1;rw [c1,c2,Bool.and_true] at T2;rw [c1,c2,c3,Bool.and_true] at T3;have hb1:=UInt8.toNat_lt ((c::t).getD 1 0);have hn2:(i+1+1<=s.length)↔2<=(c::t).length:=by omega
 have hn3:(i+1+2<=s.length)↔3<=(c::t).length:=by omega
 have hn4:(i+1+3<=s.length)↔4<=(c::t).length:=by omega
 have hc1:gN ((c::t).getD 1 0).toNat=true->128<=((c::t).getD 1 0).toNat:=λ q=>by simp only [gN,n6,decide_eq_true_eq] at q; omega
 have hlt1:∀ k,k+1<=(c::t).length->k=1->(0:Int)<=pz s (c::t)+1/\pz s (c::t)+1 < (s.length:Int):=λ k hk e=>by omega
 unfold wid;rw [e0];generalize (c::t).getD 1 0=x1 at *;generalize (c::t).getD 2 0=x2 at *;generalize (c::t).getD 3 0=x3 at *;generalize (c::t).length=n at *;simp only [kS,gC h,e1];unfold uL;refine ag S8 ?_;by_cases q0:c.toNat < 128
 ·rw [if_pos q0];exact rN
 rw [if_neg q0];refine af O (aj (decide ((194<=c.toNat/\c.toNat<=223)/\2<=n/\gN x1.toNat=true)) (av (λ q=>av (λ q'=>ag aB (ag aB (aj _ T1 (aa ?_)))) (λ q'=>aa ?_)) (λ q=>aa ?_)) ?_)
 ·refine eqB ?_; simp only [n6,decide_eq_true_eq]; rw [hn2]; exact ⟨λ w=>⟨by omega,w⟩,λ w=>w.2⟩
 ·symm; rw [decide_eq_false_iff_not]; omega
 ·symm; rw [decide_eq_false_iff_not]; omega
 by_cases q1:(194<=c.toNat/\c.toNat<=223)/\2<=n/\gN x1.toNat=true
 ·rw [if_pos q1];exact ae (decide_eq_true q1) (aa rfl)
 rw [if_neg q1]
 refine af (λ w=>q1 (of_decide_eq_true w)) (aj (decide ((224<=c.toNat/\c.toNat<=239)/\(3<=n/\gN x1.toNat=true/\gN x2.toNat=true)/\¬ (c.toNat=224/\x1.toNat < 160)/\¬ (c.toNat=237/\159 < x1.toNat)))
  (av (λ q=>av (λ q'=>ag aB (ag aB (aj _ T2 (av (λ w=>?_) (λ w=>aa ?_))))) (λ q'=>aa ?_)) (λ q=>aa ?_)) ?_)
 ·exact F4
 ·symm; rw [decide_eq_false_iff_not]; intro v; refine w ?_; simp only [n6,decide_eq_true_eq]; exact ⟨by omega,v.2.1.2.1,v.2.1.2.2⟩
 ·symm; rw [decide_eq_false_iff_not]; omega
 ·symm; rw [decide_eq_false_iff_not]; omega
 by_cases q2:(224<=c.toNat/\c.toNat<=239)/\(3<=n/\gN x1.toNat=true/\gN x2.toNat=true)/\¬ (c.toNat=224/\x1.toNat < 160)/\¬ (c.toNat=237/\159 < x1.toNat)
 ·rw [if_pos q2];exact ae (decide_eq_true q2) (aa rfl)
 rw [if_neg q2]
 refine af (λ w=>q2 (of_decide_eq_true w)) (aj (decide ((240<=c.toNat/\c.toNat<=244)/\(4<=n/\gN x1.toNat=true/\gN x2.toNat=true/\gN x3.toNat=true)/\¬ (c.toNat=240/\x1.toNat < 144)/\¬ (c.toNat=244/\143 < x1.toNat)))
  (av (λ q=>av (λ q'=>ag aB (ag aB (aj _ T3 (av (λ w=>?_) (λ w=>aa ?_))))) (λ q'=>aa ?_)) (λ q=>aa ?_)) ?_)
 ·exact F4
 ·symm; rw [decide_eq_false_iff_not]; intro v; refine w ?_; simp only [n6,decide_eq_true_eq]; exact ⟨by omega,v.2.1.2.1,v.2.1.2.2.1,v.2.1.2.2.2⟩
 ·symm; rw [decide_eq_false_iff_not]; omega
 ·symm; rw [decide_eq_false_iff_not]; omega
 by_cases q3:(240<=c.toNat/\c.toNat<=244)/\(4<=n/\gN x1.toNat=true/\gN x2.toNat=true/\gN x3.toNat=true)/\¬ (c.toNat=240/\x1.toNat < 144)/\¬ (c.toNat=244/\143 < x1.toNat)
 ·rw [if_pos q3];exact ae (decide_eq_true q3) (aa rfl)
 rw [if_neg q3];exact af (λ w=>q3 (of_decide_eq_true w)) (aa rfl)
end Go.Ab.R06
end
section
namespace Go.Ab.R06
open Go.Ab Go.Ab.RB Go.Lib
section
variable {p:Prop}
theorem Hv (h:p:=by
 cases x with
 | inl x =>
  have hx:q=.inl (40,none):=hx;subst hx;exact aj _ (ax (Hl _ _) Z) (aa ⟨Z,by show (40:Int)≠0; decide⟩)
 | inr y=>exact hx):p:=h
theorem GZ (h:p:=by
 rw [if_pos hc]
 exact ae (decide_eq_true hc) (aj _ (ax (Hl _ _) Z) (aa Z))):p:=h
theorem tI (h:p:=by exact ax (Hl _ _) Z):p:=h
end
theorem DL {src:Bytes->SE⊕Bytes}{l:Bytes}(hs:∀ r e,src r=.inl e->e.1≠0){e:SE}(h:j2 src l=.inl e):e.1≠0:=by
 cases l with
 | nil=>cases h; decide
 | cons b r =>
  rw [kC] at h;split at h
  ·split at h
   ·cases h; exact (by decide:(7:Int)≠0)
   ·cases h
  split at h
  ·cases h
  split at h
  ·cases h
  split at h
  ·split at h
   ·rename_i e' he; cases h; exact hs _ _ he
   ·cases h
  split at h
  ·cases h; exact (by decide:(2:Int)≠0)
  ·cases h
theorem x4:∀ (f k:Nat),(∀ l e,fy f k l=.inl e->e.1≠0)/\(∀ n l e,jq f k n l=.inl e->e.1≠0)
 | 0,k=>⟨λ l e h=>(by rw [fy] at h; cases h; decide),λ n l e h=>(by rw [jq] at h; cases h; decide)⟩
 | f+1,k=>by
  have ih:=x4 f;constructor
  ·intro l e h
   cases l with
   | nil=>rw [fy] at h; cases h; decide
   | cons b r =>
    rw [nQ] at h;split at h
    ·cases h
    split at h
    ·exact (ih k).1 _ _ h
    split at h
    ·split at h
     ·cases h; exact (by decide:(4:Int)≠0)
     ·split at h
      ·rename_i e' he; cases h; exact (ih (k+1)).2 _ _ _ he
      ·exact (ih k).1 _ _ h
    split at h
    ·cases h; decide
    ·split at h
     ·cases h; exact (by decide:(2:Int)≠0)
     ·exact (ih k).1 _ _ h
  ·intro n l e h;rw [nJ] at h;generalize fC false l=l0 at h
   cases l0 with
   | nil=>cases h; decide
   | cons b r =>
    rw [nS] at h
    cases hq:j2 (fy f k) (b::r) with
    | inl e'=>rw [hq] at h; cases h; exact DL (ih k).1 hq
    | inr z =>
     obtain ⟨c,t,l'⟩:=z;rw [hq,pf] at h;split at h
     ·split at h
      ·cases h
      ·exact (ih k).2 _ _ _ h
     split at h
     ·exact (ih k).2 _ _ _ h
     ·exact (ih k).2 _ _ _ h
def okD:ao:=ao.mk 0 0 []
def PC (s:Bytes)(o:Int)(q:SE⊕Bytes)(r:Int×ao):Prop:=match q with
 | .inl e=>r.2=rz s o e/\r.2.Ar≠0
 | .inr l=>r=(pz s l - 1,okD)
def InnR (s:Bytes)(o:Int)(q:SE⊕Bytes)(r:Int×ao):Prop:=match q with
 | .inl e=>r.2=rz s o e/\r.2.Ar≠0
 | .inr l=>r=(pz s l,okD)
def OneR (s l:Bytes)(o:Int)(q:SE⊕(Int×Bytes×Bytes))(r:ac×Int×ao):Prop:=match q with
 | .inl e=>r.2.2=rz s o e/\r.2.2.Ar≠0
 | .inr (c,t,l')=>r=(ac.mk c t (pz s l),pz s l',okD)
theorem Rw (x:UInt8):idB x=(d3 x||(true&&ji x)):=by unfold idB; rw [Bool.true_and,Bool.or_comm]
theorem Pe (x:UInt8):d3 x=(d3 x||(false&&ji x)):=by simp
theorem NC {s:Bytes}(hs:s.length<=1000000000){k:Nat}{q o:Int}{src:Bytes->SE⊕Bytes}{b:UInt8}{r:Bytes}(h:(b::r) <:+ s)(_hnz:∀ r e,src r=.inl e->e.1≠0)(hsuf:∀ l',src r=.inr l'->l' <:+ r/\l'.length < r.length)(ho:b.toNat=34->o=if k=0 then pz s (b::r) else q)
  (hsrc:b.toNat=34->Ev2 (λ n _=>kz n s (pz s r) (k:Int) o) (PC s o (src r))) :
  Ev2 (λ n _=>dV n s (pz s (b::r)) (k:Int) q) (OneR s (b::r) o (j2 src (b::r))):=by
 have S8:=iQ h;have hle:=h.length_le;have hl2:=mq b;have hd2:=jl b;refine aP ?_;simp only [dV,gC h];rw [kC];refine ag S8 ?_;by_cases h10:b.toNat=10
 ·rw [if_neg (show ¬ ji b=true by rw [hl2]; omega),if_neg (show ¬ d3 b=true by rw [hd2]; omega),if_pos h10];refine ae O (ag aB (aa ?_));exact A8
 refine af O (aj _ (uF b) ?_);by_cases h2:ji b=true
 ·rw [if_pos h2];have hsf:=lz (p:=idB) (b::r);have hl':=hsf.length_le
  have hrun:pz s ((b::r).dropWhile idB) - pz s (b::r)=(((b::r).takeWhile idB).length:Int):=by
   rw [<- tq,List.length_take]; unfold pz; omega
  refine ae h2 (aj _ (Ns s (b::r) hs h true idB Rw) (ag (bv (by rw [hrun]; omega) (by rw [hrun]; have:=(List.takeWhile_prefix (p:=idB) (l:=b::r)).length_le; omega)) ?_));by_cases h64:64 < ((b::r).takeWhile idB).length
  ·rw [if_pos h64];exact ae (by rw [hrun]; omega) (aj _ tI (aa ⟨rfl,by show (7:Int)≠0; decide⟩))
  ·rw [if_neg h64];refine af (by rw [hrun]; omega) (ag ⟨S8.1,by omega,qa⟩ (aa ?_));show _=_;rw [pH h hsf,tq]; rfl
 rw [if_neg h2];refine af h2 (aj _ (x6 b) ?_);by_cases h3:d3 b=true
 ·rw [if_pos h3];have hsf:=lz (p:=d3) (b::r);have hl':=hsf.length_le;refine ae h3 (aj _ (Ns s (b::r) hs h false d3 Pe) (ag ⟨S8.1,by unfold pz; omega,qa⟩ (aa ?_)));show _=_;rw [pH h hsf,tq]; rfl
 rw [if_neg h3,if_neg h10];refine af h3 ?_;by_cases h34:b.toNat=34
 ·rw [if_pos h34];refine ae O (aj o (av (λ z=>aa ?_) (λ z=>aa ?_)) (ag aB ?_))
  ·rw [ho h34,if_pos O]
  ·rw [ho h34,if_neg O]
  rw [<- show pz s r=pz s (b::r)+1 from j1];refine ah _ (hsrc h34) λ x hx=>?_
  cases hq:src r with
  | inl e =>
   rw [hq] at hx;exact af hx.2 (aa hx)
  | inr l' =>
   rw [hq] at hx;have hx:x=(pz s l' - 1,okD):=hx;subst hx;obtain ⟨g1,g2⟩:=hsuf l' hq;have hl's:=g1.trans (ek h);have hrl:=(ek h).length_le;have hd:r.drop (r.length - (l'.length+1)) <:+ r:=List.drop_suffix _ _;have hdl:(r.drop (r.length - (l'.length+1))).length=l'.length+1:=by rw [ld]; omega
   have e3:pz s l' - 1=pz s (r.drop (r.length - (l'.length+1))):=by unfold pz; rw [hdl]; omega
   have hge:=tH (ek h);have hle2:pz s r<=s.length:=qa;refine ae Z (ag aB (ag ⟨hge,by unfold pz; omega,by unfold pz; omega⟩ (ag (bv (by unfold pz; omega) (by unfold pz; omega)) (aa ?_))));show _=_;rw [show (pz s l' - 1,okD).1=pz s l' - 1 from rfl,show pz s l' - 1+1=pz s l' by omega,e3,pH (ek h) hd,hdl,show r.length - (l'.length+1)=r.length - l'.length - 1 by omega]
   rfl
 rw [if_neg h34];refine af O (aj _ (Ia s hs h) ?_);by_cases hsn:iF (b::r)=[]
 ·refine ae hsn (aj _ tI (aa ?_));rw [if_pos hsn];exact ⟨Z,by show (2:Int)≠0; decide⟩
 ·have Sk:=qY hsn;refine af hsn (ag aB (aa ?_));rw [if_neg hsn];show _=_;rw [<- lH Sk.2]; rfl
theorem pfxI {s l p:Bytes}(h:l <:+ s)(hs:s.length<=1000000000)(k:Nat)(hk:p.length=k)(XF:k<=3):Ev2 (λ _ _=>ck (inR (pz s l+(k:Int))) (if pz s l+(k:Int)<=(s.length:Int) then ck (inR (pz s l+(k:Int))) (ck ((0:Int)<=pz s l/\pz s l<=pz s l+(k:Int)/\pz s l+(k:Int)<=(s.length:Int)) (some (decide (sub s (pz s l) (pz s l+(k:Int))=p)))) else some false)) (·=hasPrefix l p):=by
 have hge:=tH h;have hle:=h.length_le;have hpl:pz s l+(l.length:Int)=s.length:=by unfold pz; omega
 have hp:=y3 l p;rw [hk] at hp;refine ag aB (av (λ q=>ag aB (ag ⟨hge,by omega,q⟩ (aa ?_))) (λ q=>aa ?_))
 ·rw [<- hp,decide_eq_true (show k<=l.length by omega),Bool.true_and];refine eqB ?_;rw [decide_eq_true_eq,decide_eq_true_eq,uj h O]
 ·rw [<- hp,decide_eq_false (show ¬ k<=l.length by omega),Bool.false_and]
def J7 (s:Bytes)(o:Int)(q:SE⊕Bytes)(r:Unit⊕(Int×ao)):Prop:=match r with
 | .inl _=>q=.inl (40,none)
 | .inr y=>PC s o q y
def E2 (s:Bytes)(o:Int)(q:SE⊕Bytes)(r:Unit⊕(Int×ao)):Prop:=match r with
 | .inl _=>q=.inl (40,none)
 | .inr y=>InnR s o q y
theorem Do {s:Bytes}{l:Bytes}{k:Nat}{o:Int}{q:SE⊕Bytes}(hl:Ev2 (λ n m=>dd n (dT n) s (k:Int) o m (pz s l)) (J7 s o q)):Ev2 (λ n _=>kz n s (pz s l) (k:Int) o) (PC s o q):=by
 refine aP ?_;simp only [kz];refine cj (aQ (aN (f:=λ n m=>dd n (dT n) s (k:Int) o m (pz s l)) hl) λ x hx=>?_);exact Hv
theorem Io {s:Bytes}{l:Bytes}{k:Nat}{o:Int}{q:SE⊕Bytes}(hl:Ev2 (λ n m=>cq n (dV n) s (k:Int) o m (pz s l) 0) (E2 s o q)):Ev2 (λ n _=>dT n s (pz s l) (k:Int) o) (InnR s o q):=by
 refine aP ?_;simp only [dT];refine cj (aQ (aN (f:=λ n m=>cq n (dV n) s (k:Int) o m (pz s l) 0) hl) λ x hx=>?_);exact Hv
theorem Ez {s:Bytes}(hs:s.length<=1000000000){o:Int}{f k:Nat}(Zn:k<=1000000)
  (ih1:∀ l,l <:+ s->l.length < f->Ev2 (λ n m=>dd n (dT n) s (k:Int) o m (pz s l)) (J7 s o (fy f k l)))
  (ih2:∀ l,l <:+ s->l.length < f->k < 32->Ev2 (λ n m=>cq n (dV n) s ((k+1:Nat):Int) o m (pz s l) 0) (E2 s o (jq f (k+1) 1 l))) :
  ∀ l,l <:+ s->l.length < f+1->Ev2 (λ n m=>dd n (dT n) s (k:Int) o m (pz s l)) (J7 s o (fy (f+1) k l)):=by
 intro l h hf;refine aw ?_;simp only [dd]
 cases l with
 | nil =>
  refine af (by unfold pz; simp) (aa ?_);show fy (f+1) k []=_;rw [fy]
 | cons b r =>
  have S8:=iQ h;have hle:=h.length_le;have hfr:r.length < f:=by simp only [aq] at hf; omega
  simp only [gC h];rw [nQ];refine ae S8.2 (cj (ag S8 ?_));by_cases h34:b.toNat=34
  ·rw [if_pos h34];refine ae O (aa ?_);show (_,_)=(_,_);rw [show pz s r - 1=pz s (b::r) by rw [show pz s r=pz s (b::r)+1 from j1]; omega]
   rfl
  rw [if_neg h34];refine af O (aj _ (pfxI (p:=[36,36,123]) h hs 3 rfl O) ?_);by_cases h3:hasPrefix (b::r) [36,36,123]=true
  ·rw [if_pos h3];have hp:=hasPrefix_le h3;simp only [aq,n8] at hp;refine ae h3 (ag aB (aa ?_));have:=ih1 ((b::r).drop 3) (ta 3 h) uh;rw [lH oB] at this;exact this
  rw [if_neg h3];refine af h3 (aj _ (pfxI (p:=[36,123]) h hs 2 rfl O) ?_);by_cases h2:hasPrefix (b::r) [36,123]=true
  ·rw [if_pos h2];have hp:=hasPrefix_le h2;simp only [aq,n8] at hp;refine ae h2 ?_;by_cases hk:32<=k
   ·rw [if_pos hk];exact ae O (aj _ tI (aa ⟨rfl,by show (4:Int)≠0; decide⟩))
   ·rw [if_neg hk];have hin:=Io (ih2 ((b::r).drop 2) (ta 2 h) uh O);rw [lH oB] at hin;refine af O (ag aB (ag aB (ah _ hin λ x hx=>?_)))
    cases hq:jq f (k+1) 1 ((b::r).drop 2) with
    | inl e =>
     rw [hq] at hx;exact af hx.2 (aa hx)
    | inr l' =>
     rw [hq] at hx;have hx:x=(pz s l',okD):=hx;subst hx;obtain ⟨g1,g2⟩:=(gO f (k+1)).2 _ _ _ hq;refine ae rfl (aa (ih1 l' (g1.trans (ta 2 h)) ?_));rw [ld] at g2; simp only [aq] at g2; omega
  rw [if_neg h2];refine af h2 (cj ?_);have hsf:(if b.toNat=92 then r else b::r) <:+ s:=by split; exact ek h; exact h
  have hln:(if b.toNat=92 then r else b::r).length<=r.length+1:=by split <;> simp
  have hsplit:Ev2 (λ _ _=>(ck ((0:Int)<=pz s (b::r)/\pz s (b::r) < (s.length:Int)) (if (b.toNat:Int)=92 then ck (inR (pz s (b::r)+1)) (if (s.length:Int)<=pz s (b::r)+1 then some (.inr (.inr (.inl ()))) else some (.inl (pz s (b::r)+1))) else some (.inl (pz s (b::r)))):Option (Int⊕(Int⊕(Unit⊕(Int×ao))))))
    (·=if (if b.toNat=92 then r else b::r)=[] then .inr (.inr (.inl ())) else .inl (pz s (if b.toNat=92 then r else b::r))):=by
   refine ag S8 ?_;by_cases h92:b.toNat=92
   ·rw [if_pos h92];refine ae O (ag aB ?_);rw [<- show pz s r=pz s (b::r)+1 from j1]
    cases r with
    | nil=>exact ae (by unfold pz; simp) (aa Z)
    | cons c t=>exact af (by have:=xZ (s:=s) (b:=c) (r:=t); omega) (aa Z)
   ·rw [if_neg h92];exact uN
  refine aQ hsplit λ x hx=>?_;subst hx;generalize (if b.toNat=92 then r else b::r)=l1 at hsf hln ⊢
  cases l1 with
  | nil=>rfl
  | cons c t =>
   rw [if_neg G];have hatc:=iQ hsf;simp only [gC hsf];obtain ⟨w1,w2⟩:=L9 (l:=c::t) G;have hdf:=iB (c::t) G;have ec:(c::t).getD 0 0=c:=rfl;rw [ec] at w1;refine aj _ (L4 s hs hsf) (aj (decide (jz (decodeL (c::t)))) (av (λ q=>aa ?_) (λ q=>ag hatc (av (λ q2=>aa ?_) (λ q2=>ag hatc (aa ?_))))) ?_)
   ·symm; rw [decide_eq_true_eq,w1]; left; omega
   ·symm; rw [decide_eq_true_eq,w1]; right; left; omega
   ·refine eqB ?_; rw [decide_eq_true_eq,decide_eq_true_eq,w1]; omega
   ·by_cases hb:jz (decodeL (c::t))
    ·rw [if_pos hb];exact ae (decide_eq_true hb) (aj _ tI (aa ⟨rfl,by show (2:Int)≠0; decide⟩))
    ·rw [if_neg hb];rw [<- w2 hb];have hcl:=hsf.length_le;refine af (λ w=>hb (of_decide_eq_true w)) (ag (bv O (by have:=qa (s:=s) (l:=c::t); omega)) (aa ?_));have:=ih1 ((c::t).drop (decodeL (c::t)).2) (ta _ hsf) (by rw [ld]; simp only [aq] at hln ⊢; omega);rw [lH hdf.2.1] at this;exact this
theorem Cc {s:Bytes}(hs:s.length<=1000000000){o:Int}{f k:Nat}(ZM:k≠0)
  (ih1:∀ l,l <:+ s->l.length < f->Ev2 (λ n m=>dd n (dT n) s (k:Int) o m (pz s l)) (J7 s o (fy f k l)))
  (ih2:∀ l n,1<=n->n+l.length<=s.length+1->l <:+ s->l.length < f->Ev2 (λ nn m=>cq nn (dV nn) s (k:Int) o m (pz s l) ((n:Int) - 1)) (E2 s o (jq f k n l))) :
  ∀ l n,1<=n->n+l.length<=s.length+1->l <:+ s->l.length < f+1->Ev2 (λ nn m=>cq nn (dV nn) s (k:Int) o m (pz s l) ((n:Int) - 1)) (E2 s o (jq (f+1) k n l)):=by
 intro l n hn hnl h hf;refine aw ?_;simp only [cq];rw [nJ];have hsk:=oa false l;have hbl:=ze s l hs h;rw [<- zj] at hbl;refine ae qa (aj _ hbl ?_);have Sk:=hsk.length_le;have hss:=hsk.trans h;generalize fC false l=l1 at hsk Sk hss ⊢
 cases l1 with
 | nil=>exact ae (by unfold pz; simp) (aa Z)
 | cons b r =>
  have S8:=iQ hss;rw [nS];simp only [aq] at Sk;have Td:=NC hs (k:=k) (q:=o) (o:=o) (src:=fy f k) hss (x4 f k).1 (λ l' hl'=>(gO f k).1 _ _ hl') (λ _=>by rw [if_neg ZM]) (λ _=>Do (ih1 r (ek hss) O));refine af O (ah _ Td λ x hx=>?_)
  cases hq:j2 (fy f k) (b::r) with
  | inl e =>
   rw [hq] at hx;rw [qK];exact af hx.2 (aa hx)
  | inr z =>
   obtain ⟨c,t,l'⟩:=z;rw [hq] at hx;have hx:x=(ac.mk c t (pz s (b::r)),pz s l',okD):=hx;subst hx;obtain ⟨g1,g2⟩:=kZ (λ r r' _ hr=>(gO f k).1 _ _ hr) hq;simp only [aq] at g2;have hl's:=g1.trans hss;rw [pf];refine ae rfl (cj (aj (decide (c=4/\t=[125])) (av (λ q=>aa ?_) (λ q=>aa ?_)) ?_))
   ·exact wW
   ·symm; rw [decide_eq_false_iff_not]; exact λ w=>q w.1
   have last:∀ (N:Nat),(1<=N)->N<=n->¬ (c=4/\t=[123]/\N≠n)->Ev2 (λ n_1 m=>(((if c=4 then some (decide (t=[123])) else some false).bind λ t37=>if t37=true then ck (inR ((N:Int) - 1+1)) (some ((N:Int) - 1+1)) else some ((N:Int) - 1)).bind λ open40=>cq n_1 (dV n_1) s (k:Int) o m (pz s l') open40))
     (E2 s o (if c=4/\t=[123] then jq f k (N+1) l' else jq f k N l')):=by
    intro N hN hNn hx;refine aj (((if c=4/\t=[123] then N+1 else N:Nat):Int) - 1) (aj (decide (c=4/\t=[123])) (av (λ q=>aa ?_) (λ q=>aa ?_)) (av (λ q=>ag aB (aa ?_)) (λ q=>aa ?_))) ?_
    ·exact wW
    ·symm; rw [decide_eq_false_iff_not]; exact λ w=>q w.1
    ·rw [decide_eq_true_eq] at q; rw [if_pos q]; omega
    ·rw [decide_eq_true_eq] at q; rw [if_neg q]
    ·by_cases h123:c=4/\t=[123]
     ·rw [if_pos h123,if_pos h123];exact ih2 l' (N+1) O O  hl's O
     ·rw [if_neg h123,if_neg h123];exact ih2 l' N hN O hl's O
   by_cases h125:c=4/\t=[125]
   ·have hn123:¬ (c=4/\t=[123]):=λ w=>by rw [h125.2] at w; exact absurd w.2 (by decide)
    rw [if_pos h125];by_cases h1:n=1
    ·subst h1;rw [if_pos rfl];exact ae (decide_eq_true h125) uc
    ·rw [if_neg h1];refine ae (decide_eq_true h125) (af O (ag aB (aa ?_)));have:=last (n - 1) O O  (λ w=>hn123 ⟨w.1,w.2.1⟩);rw [if_neg hn123,show ((n - 1:Nat):Int) - 1=(n:Int) - 1 - 1 by omega] at this;exact this
   ·rw [if_neg h125];refine af (λ w=>h125 (of_decide_eq_true w)) (aa ?_);exact last n hn (bx _) (λ w=>w.2.2 rfl)
theorem tG {s:Bytes}(hs:s.length<=1000000000){o:Int}:∀ (f:Nat),
  (∀ (k:Nat) l,k<=1000->l <:+ s->l.length < f->Ev2 (λ n m=>dd n (dT n) s (k:Int) o m (pz s l)) (J7 s o (fy f k l))) /\
  (∀ (k:Nat) l n,k≠0->k<=1000->1<=n->n+l.length<=s.length+1->l <:+ s->l.length < f->Ev2 (λ nn m=>cq nn (dV nn) s (k:Int) o m (pz s l) ((n:Int) - 1)) (E2 s o (jq f k n l)))
 | 0=>⟨λ k l _ _ h=>absurd h (Nat.not_lt_zero _),λ k l n _ _ _ _ _ h=>absurd h (Nat.not_lt_zero _)⟩
 | f+1=>by
  obtain ⟨i1,i2⟩:=tG hs (o:=o) f;refine ⟨λ k l hk=>Ez hs O (λ l=>i1 k l hk) (λ l h hf hk=>?_) l,λ k l n hk Vg=>Cc hs hk (λ l=>i1 k l Vg) (λ l n a b c e=>i2 k l n hk Vg a b c e) l n⟩;exact i2 (k+1) l 1 O O  (bx _) (by have:=h.length_le; omega) h hf
theorem Ng {s:Bytes}(hs:s.length<=1000000000){f:Nat}{b:UInt8}{r:Bytes}(h:(b::r) <:+ s)(hf:r.length < f)(q:Int) :
  Ev2 (λ n _=>dV n s (pz s (b::r)) 0 q) (OneR s (b::r) (pz s (b::r)) (j2 (fy f 0) (b::r))) :=
 NC (k:=0) hs h (x4 f 0).1 (λ l' hl'=>(gO f 0).1 _ _ hl') (λ _=>by rw [if_pos Z]) (λ _=>Do ((tG hs f).1 0 r O (ek h) hf))
theorem yj {s:Bytes}(hs:s.length<=1000000000):∀ (f:Nat) (l:Bytes) (out:List ac),out.length<=16384->l <:+ s->l.length < f->Ev2 (λ n m=>fW n s m out (pz s l)) (·=.inr (Ii s out (kf f out.length l)))
 | 0,l,out,_,_,h=>absurd h (Nat.not_lt_zero _)
 | f+1,l,out,hout,h,hf=>by
  refine aw ?_;simp only [fW];rw [mg];have hsk:=oa true l;refine ae qa (aj _ (Qe s l hs h) ?_);have Sk:=hsk.length_le;have hss:=hsk.trans h;generalize fC true l=l1 at hsk Sk hss ⊢
  cases l1 with
  | nil =>
   have hz:(s.length:Int)<=pz s []:=by unfold pz; simp
   refine aj (decide (out.length=16384)) (av (λ q=>ae hz (aa ?_)) (λ q=>aa ?_)) ?_
   ·symm; rw [decide_eq_true_eq]; omega
   ·symm; rw [decide_eq_false_iff_not]; omega
   rw [nP];by_cases hc:out.length=16384
   ·exact GZ
   ·rw [if_neg hc];exact af (λ w=>hc (of_decide_eq_true w)) (ae hz (ag nc (aa rfl)))
  | cons b r =>
   have S8:=iQ hss;refine aj (decide (out.length=16384)&&jf (b::r)) (av (λ q=>af O (aj _ (KV s hs hss) (aa ?_))) (λ q=>aa ?_)) ?_
   ·rw [decide_eq_true (show out.length=16384 by omega),Bool.true_and]
   ·rw [decide_eq_false (show ¬ out.length=16384 by omega),Bool.false_and]
   rw [mw];simp only [aq] at Sk;have Td:=Ng hs hss (f:=f) O (pz s (b::r))
   cases hb:jf (b::r)
   ·rw [if_pos rfl];rw [yT hb] at Td;refine af G (af O (ah _ Td λ x hx=>af hx.2 (aa ?_)));show _=Sum.inr ([],rz s 0 (2,some (b::r).length));rw [hx.1]; rfl
   ·rw [if_neg G,Bool.and_true];by_cases hc:out.length=16384
    ·exact GZ
    ·rw [if_neg hc];refine af (λ w=>hc (of_decide_eq_true w)) (af O (ah _ Td λ x hx=>?_))
     cases hq:j2 (fy f 0) (b::r) with
     | inl e =>
      rw [hq] at hx;refine af hx.2 (aa ?_);rw [hx.1,ym s (b::r) 0]
      rfl
     | inr z =>
      obtain ⟨c,t,l'⟩:=z;rw [hq] at hx;have hx:x=(ac.mk c t (pz s (b::r)),pz s l',okD):=hx;subst hx;obtain ⟨g1,g2⟩:=kZ (λ r r' _ hr=>(gO f 0).1 _ _ hr) hq;simp only [aq] at g2;have ih:=yj hs f l' (out++[ac.mk c t (pz s (b::r))]) kw (g1.trans hss) O;simp only [ph,aq,n8,Nat.zero_add] at ih;rw [nU];refine ae rfl (ag nc (NF ih ?_));exact Hz
theorem OR (s:Bytes):Ev2 (λ n _=>lY n s) (·=eG s):=by
 simp only [lY];unfold eG;by_cases h:65536 < s.length
 ·rw [if_pos h];exact ae O (aj _ tI (aa rfl))
 ·rw [if_neg h];have:=yj (s:=s) O (s.length+1) s [] G List.suffix_rfl (Nat.lt_succ_self _);rw [Dv] at this;exact af O (iC _ (aN (f:=λ n m=>fW n s m [] 0) this) rfl)
end Go.Ab.R06
end
section
namespace Go.Ab.R06
open Go.Proofs Go.Ab Go.Ab.RB
set_option maxRecDepth 4000
attribute [local irreducible] awp ik bg bO cv AV.sub M dc
instance O7:HE Tryz.prog 152:=⟨Tryz.call152⟩
instance PN:HE Tryz.prog 153:=⟨Tryz.call153⟩
instance Ql:HE Tryz.prog 151:=⟨Tryz.call151⟩
instance Ob:HE Tryz.prog 117:=⟨Tryz.call117⟩
instance OT:HE Tryz.prog 119:=⟨Tryz.call119⟩
instance Po:HE Tryz.prog 115:=⟨Tryz.call115⟩
instance OX:HE Tryz.prog 116:=⟨Tryz.call116⟩
instance Ox:HE Tryz.prog 120:=⟨Tryz.call120⟩
instance O0:HE Tryz.prog 69:=⟨Tryz.call69⟩
instance Qt:HE Tryz.prog 32:=⟨Tryz.call32⟩
instance NG:HE Tryz.prog 73:=⟨Tryz.call73⟩
instance NI:HE Tryz.prog 122:=⟨Tryz.call122⟩
instance Nx:HE Tryz.prog 108:=⟨Tryz.call108⟩
instance Nq:HE Tryz.prog 74:=⟨Tryz.call74⟩
instance NM:HE Tryz.prog 72:=⟨Tryz.call72⟩
instance NW:HE Tryz.prog 13:=⟨Tryz.call13⟩
instance NA:HE Tryz.prog 127:=⟨Tryz.call127⟩
instance NP:HE Tryz.prog 79:=⟨Tryz.call79⟩
instance Nn:HE Tryz.prog 80:=⟨Tryz.call80⟩
instance Nu:HE Tryz.prog 128:=⟨Tryz.call128⟩
instance Nr:HE Tryz.prog 168:=⟨Tryz.call168⟩
instance NN:HE Tryz.prog 169:=⟨Tryz.call169⟩
abbrev rX (F:Bytes->Int->Option (Int))(k:Nat):Prop:=∀ (a0:Bytes) (a1:Int) (r:Int),HP (F a0 a1=some r) Tryz.prog k [eS a0,eI a1] (.p (eI r))
abbrev pR (v:List ac×Int×Int×Int×Int×Bytes):List AV:=[.p (eL aF v.1),.p (eI v.2.1),.p (eI v.2.2.1),.p (eI v.2.2.2.1),.p (eI v.2.2.2.2.1),.p (eS v.2.2.2.2.2)]
abbrev nI:List AV:=[.p (eI 0),.p (eS ([]:Bytes)),.p (eI 0)]
def io (Ty:Int):Option Bool :=
 (
   if Ty=12 then
    some true
   else
    some (decide (Ty=13))
  ).bind λ t2 =>
 some t2
instance K7 (Ty:Int):∀ (r:Bool),HP (io Ty=some r) Tryz.prog 152 [eI Ty] (.p (eB r)):=by
 refine hP good Tryz.func152 Z Z λ r h0 _ w0=>?_;unfold io at h0;exact kb
def ig (Ty:Int):Option Bool :=
 (
   if Ty=3 then
    some true
   else
    if Ty=4 then
     some true
    else
     if Ty=9 then
      some true
     else
      (io Ty).bind λ r4 =>
      some r4
  ).bind λ t6 =>
 some t6
instance G9 (Ty:Int):∀ (r:Bool),HP (ig Ty=some r) Tryz.prog 117 [eI Ty] (.p (eB r)):=by
 refine hP good Tryz.func117 Z Z λ r h0 _ w0=>?_;unfold ig at h0;exact kb
def iq (Ty:Int)(n_1:Int):Option Bool :=
 (
   if Ty=1 then
    some true
   else
    some (decide (Ty=3))
  ).bind λ t2 =>
 if t2=true then
  some (decide (n_1=0))
 else
  if Ty=2 then
   some (decide (1<=n_1))
  else
   (
     if Ty=4 then
      some true
     else
      some (decide (Ty=6))
    ).bind λ t6 =>
   if t6=true then
    some (decide (n_1=1))
   else
    (
      if Ty=5 then
       some true
      else
       some (decide (Ty=7))
     ).bind λ t9 =>
    if t9=true then
     some (decide (n_1=2))
    else
     if Ty=8 then
      some (decide (n_1=3))
     else
      (
        if Ty=9 then
         some true
        else
         some (decide (Ty=10))
       ).bind λ t13 =>
      if t13=true then
       some true
      else
       if Ty=11 then
        ck ((2:Int)≠0) <|
        some (decide (n_1.tmod 2=0))
       else
        if Ty=12 then
         (
           if n_1=2 then
            some true
           else
            some (decide (n_1=3))
          ).bind λ Ue =>
         some Ue
        else
         if Ty=13 then
          (
            if n_1=3 then
             some true
            else
             some (decide (n_1=4))
           ).bind λ t22 =>
          some t22
         else
          some false
instance K6 (Ty:Int) (n_1:Int):∀ (r:Bool),HP (iq Ty n_1=some r) Tryz.prog 151 [eI Ty,eI n_1] (.p (eB r)):=by
 refine hP good Tryz.func151 Z Z λ r h0 _ w0=>?_;unfold iq at h0;refine nx 11 Z (bd h0 λ VN h1 h0=>?_);refine kN VN (λ Ux=>⟨[(1,.p (eI n_1)),(5,.p (eI Ty)),(6,.p (eB Ux))],[]⟩) ?_ ?_
 ·refine nx 1 Z (fB [6] h0 Z (λ c3 h0=>?_) λ c3 h0=>?_)
  ·exact J0
  refine nx 6 Z (fD [11,12] h0 Z (λ c4 h0=>?_) λ c4 h0=>?_)
  ·exact J0
  refine nx 2 Z (bd h0 λ Xz h1 h0=>?_);refine kN Xz (λ Xb=>⟨[(1,.p (eI n_1)),(5,.p (eI Ty)),(15,.p (eB Xb))],[]⟩) ?_ ?_
  ·refine nx 1 Z (fB [15] h0 Z (λ c7 h0=>?_) λ c7 h0=>?_)
   ·exact J0
   refine nx 2 Z (bd h0 λ Y8 h1 h0=>?_);refine kN Y8 (λ Yz=>⟨[(1,.p (eI n_1)),(5,.p (eI Ty)),(20,.p (eB Yz))],[]⟩) ?_ ?_
   ·refine nx 1 Z (fB [20] h0 Z (λ Yy h0=>?_) λ Yy h0=>?_)
    ·exact J0
    refine nx 6 Z (fD [25,26] h0 Z (λ W9 h0=>?_) λ W9 h0=>?_)
    ·exact J0
    refine nx 2 Z (bd h0 λ ZJ h1 h0=>?_);refine kN ZJ (λ YP=>⟨[(1,.p (eI n_1)),(5,.p (eI Ty)),(29,.p (eB YP))],[]⟩) ?_ ?_
    ·refine nx 1 Z (fB [29] h0 Z (λ XV h0=>?_) λ XV h0=>?_)
     ·exact J0
     refine nx 6 Z (fD [32,33] h0 Z (λ XU h0=>?_) λ XU h0=>?_)
     ·refine nx 4 Z (cc' h0 λ UL h0=>?_);refine mO Z (Iz Z Z Z Z Z Z UL ?_);exact J0
     have:=js [2100,2300];have:=jS 2100 Bool λ v=>[(4,.p (eB v))]
     have:=jS 2300 Bool λ v=>[(4,.p (eB v))]
     exact J0
    exact ay
   exact ay
  exact ay
 exact ay
def jx (SO:am):Option Bool :=
 (
   if SO.Ar=0 then
    if SO.E'=0 then
     if SO.If=([]:Bytes) then
      if (SO.Df.length:Int)=0 then
       some (decide ((SO.C'.length:Int)=0))
      else
       some false
     else
      some false
    else
     some false
   else
    some false
  ).bind λ t5 =>
 some t5
instance Ln (SO:am):∀ (r:Bool),HP (jx SO=some r) Tryz.prog 153 [.agg (am.cs SO)] (.p (eB r)):=by
 refine hP good Tryz.func153 Z Z λ r h0 _ w0=>?_;unfold jx at h0;exact kb
def fH (SR:ad):Option Bool :=
 (
   (iq SR.Ar (SR.By.length:Int)).bind λ r1 =>
   if (!r1)=true then
    some true
   else
    (io SR.Ar).bind λ r4 =>
    if (!r4)=true then
     if SR.Gw=([]:Bytes) then
      (ig SR.Ar).bind λ r8 =>
      if (!r8)=true then
       some (!decide (SR.AI=([]:Bytes)))
      else
       some false
     else
      some true
    else
     (ig SR.Ar).bind λ VU =>
     if (!VU)=true then
      some (!decide (SR.AI=([]:Bytes)))
     else
      some false
  ).bind λ Ya =>
 if Ya=true then
  some false
 else
  if SR.Ar=1 then
   (
     if SR.fOp=0 then
      if SR.A'.Ar=0 then
       some true
      else
       if SR.A'.Ar=1 then
        some true
       else
        if SR.A'.Ar=3 then
         some true
        else
         if SR.A'.Ar=2 then
          some (decide (0<=SR.A'.E'))
         else
          some false
     else
      some false
    ).bind λ t22 =>
   some t22
  else
   (jx SR.A').bind λ Tp =>
   if (!Tp)=true then
    some false
   else
    if SR.Ar=6 then
     (
       if SR.fOp=1 then
        some true
       else
        some (decide (SR.fOp=2))
      ).bind λ YV =>
     some YV
    else
     if SR.Ar=7 then
      (
        if 3<=SR.fOp then
         some (decide (SR.fOp<=15))
        else
         some false
       ).bind λ t31 =>
      some t31
     else
      some (decide (SR.fOp=0))
instance Fe (SR:ad):∀ (r:Bool),HP (fH SR=some r) Tryz.prog 115 [.agg (ad.cs SR)] (.p (eB r)):=by
 refine hP good Tryz.func115 Z Z λ r h0 _ w0=>?_;unfold fH at h0;have:=js [100,500,1000,1200];have:=jS 100 Bool λ v=>[(32,.p (eB v))]
 have:=jS 500 Bool λ v=>[(2,.p (eB v))]
 have:=jS 1000 Bool λ v=>[(2,.p (eB v))]
 have:=jS 1200 Bool λ v=>[(2,.p (eB v))]
 exact J0
def ed (Mr:Bytes):Option Bool :=
 (
   if Mr=([110,117,108,108]:Bytes) then
    some true
   else
    if Mr=([116,114,117,101]:Bytes) then
     some true
    else
     if Mr=([102,97,108,115,101]:Bytes) then
      some true
     else
      if Mr=([102,111,114]:Bytes) then
       some true
      else
       if Mr=([105,110]:Bytes) then
        some true
       else
        some (decide (Mr=([105,102]:Bytes)))
  ).bind λ t6 =>
 some t6
instance Di (Mr:Bytes):∀ (r:Bool),HP (ed Mr=some r) Tryz.prog 119 [eS Mr] (.p (eB r)):=by
 refine hP good Tryz.func119 Z Z λ r h0 _ w0=>?_;unfold ed at h0;exact kb
def oL (n:Nat)(Mr:Bytes):Option Bool :=
 (
   (gb n Mr).bind λ r1 =>
   if r1=true then
    (ed Mr).bind λ r4 =>
    some (!r4)
   else
    some false
  ).bind λ t6 =>
 some t6
instance Lj (n:Nat) (Mr:Bytes):∀ (r:Bool),HP (oL n Mr=some r) Tryz.prog 120 [eS Mr] (.p (eB r)):=by
 refine hP good Tryz.func120 Z Z λ r h0 _ w0=>?_;unfold oL at h0;exact kb
def mr (n:Nat)(SR:ad):Option Int :=
 (fH SR).bind λ r1 =>
 if (!r1)=true then
  some 1
 else
  if SR.Ar=1 then
   (lg n SR.A').bind λ r5 =>
   some r5
  else
   (
     (ig SR.Ar).bind λ r7 =>
     if r7=true then
      (gb n SR.AI).bind λ Tn =>
      if (!Tn)=true then
       some true
      else
       if SR.Ar=4 then
        some false
       else
        (ed SR.AI).bind λ Xf =>
        some Xf
     else
      some false
    ).bind λ TY =>
   if TY=true then
    some 7
   else
    (
      if SR.Gw=([]:Bytes) then
       some false
      else
       (oL n SR.Gw).bind λ Va =>
       some (!Va)
     ).bind λ t21 =>
    if t21=true then
     some 7
    else
     some 0
instance K8 (n:Nat) (SR:ad):∀ (r:Int),HP (mr n SR=some r) Tryz.prog 69 [.agg (ad.cs SR)] (.p (eI r)):=by
 refine hP good Tryz.func69 Z Z λ r h0 _ w0=>?_;unfold mr at h0;have:=js [500,700];have:=jS 500 Bool λ v=>[(30,.p (eB v))]
 have:=jS 700 Bool λ v=>[(39,.p (eB v))]
 exact J0
def cr (Ug:ad->Int->Int->Option (Int×Int))(SR:ad)(O':Int):Nat->Int->Int->Int->Option (Int×Int)
 | 0,_,_,_=>none
 | m+1,k17,n18,i19 =>
 (
   if i19 < (SR.By.length:Int) then
    some (decide (k17=0))
   else
    some false
  ).bind λ t21 =>
 if t21=true then
  ck ((0:Int)<=i19/\i19 < (SR.By.length:Int)) <|
  ck (inR (O'+1)) <|
  (Ug (lat SR.By i19) (O'+1) n18).bind λ UC =>
  ck (inR (i19+1)) <|
  cr Ug SR O' m UC.1 UC.2 (i19+1)
 else
  some (k17,n18)
def dQ:Nat->ad->Int->Int->Option (Int×Int)
 | 0,_,_,_=>none
 | n+1,SR,O',SX =>
 if 32 < O' then
  some (4,0)
 else
  if 4096<=SX then
   some (14,0)
  else
   (mr n SR).bind λ r3 =>
   ck (inR (SX+1)) <|
   (cr (dQ n) SR O' n r3 (SX+1) 0).bind λ X2 =>
   some (X2.1,X2.2)
instance GP (n:Nat):∀ (SR:ad) (O':Int) (SX:Int) (r:Int×Int),HP (dQ n SR O' SX=some r) Tryz.prog 32 [.agg (ad.cs SR),eI O',eI SX] (.tuple [.p (eI r.1),.p (eI r.2)]):=by
 induction n with
 | zero=>exact Zr
 | succ n ih =>
 refine λ SR O' SX=>hP good Tryz.func32 Z Z λ r h0 _ w0=>?_;rw [dQ] at h0;refine nx 12 Z (fD [12] h0 Z (λ c1 h0=>?_) λ c1 h0=>?_)
 ·exact J0
 refine nx 8 Z (fD [14] h0 Z (λ c2 h0=>?_) λ c2 h0=>?_)
 ·exact J0
 refine nx 5 Z (K0 λ r3 h0=>nx 5 Z ?_);refine oA h0 Z Z λ YM h0=>nx 8 Z (bd h0 λ ZJ h1 h0=>?_);refine kE 0 ZJ (λ YP=>⟨[(8,.p (eI YP.1)),(9,.p (eI YP.2))],[]⟩) ?_ ?_
 ·exact J0
 refine lG (λ (Yk:Int×Int×Int)=>⟨[(1,.p (eI O')),(3,.ptr 3 0),(8,.p (eI Yk.1)),(9,.p (eI Yk.2.1)),(10,.p (eI Yk.2.2))],[(3,(ad.cs SR).map .p)]⟩) (λ m (Yk:Int×Int×Int)=>cr (dQ n) SR O' m Yk.1 Yk.2.1 Yk.2.2) Y (r3,SX+1,0) h1 (gE rfl rfl) ?_;rintro m ⟨k17,n18,i19⟩ h1;replace h1:cr (dQ n) SR O' (m+1) k17 n18 i19=some ZJ:=h1;rw [cr] at h1;have:=js [800];have:=jS 800 Bool λ v=>[(27,.p (eB v))]
 exact ay
def lm (n:Nat)(SR:ad):Option Int :=
 (dQ n SR 1 0).bind λ r1 =>
 some r1.1
instance Im (n:Nat) (SR:ad):∀ (r:Int),HP (lm n SR=some r) Tryz.prog 13 [.agg (ad.cs SR)] (.p (eI r)):=by
 refine hP good Tryz.func13 Z Z λ r h0 _ w0=>?_;unfold lm at h0;exact J0
def au (OF:ai):Option (Bool×ai) :=
 some (!decide (OF.fD.Ar=0),OF)
instance zX (OF:ai):∀ (r:Bool×ai),HO (au OF=some r) Tryz.prog 72 [.ptr 1000000 0] [(1000000,((ai.cs OF).map .p))] (.p (eB r.1)) ([(1000000,((ai.cs r.2).map .p))]):=by
 refine hO good [] [1000000] Tryz.func72 Z Z λ r h0 _ w0 F=>?_;unfold au at h0;exact J0
def cI (OF:ai):Nat->Int->Option Int
 | 0,_=>none
 | m+1,f8 =>
 (
   if 0 < OF.fIn then
    if f8 < (OF.fL.length:Int) then
     ck ((0:Int)<=f8/\f8 < (OF.fL.length:Int)) <|
     some (decide ((lat OF.fL f8).Ar=5))
    else
     some false
   else
    some false
  ).bind λ t12 =>
 if t12=true then
  ck (inR (f8+1)) <|
  cI OF m (f8+1)
 else
  some f8
def bG (n:Nat)(OF:ai):Option (ac×ai) :=
 (cI OF n OF.fI).bind λ XP =>
 if XP < (OF.fL.length:Int) then
  ck ((0:Int)<=XP/\XP < (OF.fL.length:Int)) <|
  some ((lat OF.fL XP),(ai.mk OF.fL XP OF.fIn OF.fD))
 else
  some ((ac.mk 6 ([]:Bytes) 0),(ai.mk OF.fL XP OF.fIn OF.fD))
instance zZ (n:Nat) (OF:ai):∀ (r:ac×ai),HO (bG n OF=some r) Tryz.prog 73 [.ptr 1000000 0] [(1000000,((ai.cs OF).map .p))] (.p (.agg (ac.cs r.1))) ([(1000000,((ai.cs r.2).map .p))]):=by
 refine hO good [] [1000000] Tryz.func73 Z Z λ r h0 _ w0 F=>?_;unfold bG at h0;refine nx 6 Z (bd h0 λ Wg h1 h0=>?_);refine kE 0 Wg (λ YR=>⟨[(0,.ptr 1000000 0),(2,.ptr 2 0)],[(2,nI),(1000000,[.p (eL aF OF.fL),.p (eI YR),.p (eI OF.fIn),.p (eI OF.fD.Ar),.p (eI OF.fD.fAt),.p (eS OF.fD.AI)])]⟩) ?_ ?_
 ·refine nx 3 Z (mD [(0,.ptr 1000000 0),(2,.ptr 2 0)] Z ⟨Z,Z,trivial⟩ Z ?_);refine dR 8 Z (dq (.p (eI (OF.fL.length:Int))) [48] Z (λ _ e _ q=>ap Z (mZ (f:=aF) (l:=OF.fL) Z Z Z Z Z (e _ _ Z) Z q)) Z ?_);refine dR 1 Z (dE Z ?_);refine nx 1 Z (fD [50] h0 Z (λ Tx h0=>?_) λ Tx h0=>?_)
  ·refine nx 2 Z (cc' h0 λ Ut h0=>?_);refine mG (gE (t:=⟨[(0,.ptr 1000000 0),(2,.ptr 2 0)],[(2,nI),(1000000,[.p (eL aF OF.fL),.p (eI Wg),.p (eI OF.fIn),.p (eI OF.fD.Ar),.p (eI OF.fD.fAt),.p (eS OF.fD.AI)])]⟩) Z Z) (mSq ⟨1,[10],(λ _=>.none),(λ _=>[(0,.ptr 1000000 0),(2,.ptr 2 0)]),(ob2 ([(2,nI),(1000000,[.p (eL aF OF.fL),.p (eI Wg),.p (eI OF.fIn),.p (eI OF.fD.Ar),.p (eI OF.fD.fAt),.p (eS OF.fD.AI)])]) (2,[.p (eI ((lat OF.fL Wg).Ar)),.p (eS ((lat OF.fL Wg).B')),.p (eI ((lat OF.fL Wg).fAt))]))⟩ Z ?_);refine dPc (.ptr 1000000 0) Z (dPc (.ptr 1000000 0) Z ?_);refine dPc (.ptr 1000000 0) Z (dPc (.p (eL aF OF.fL)) Z ?_);refine dPc (.ptr 1000000 0) Z (dPc (.ptr 1000000 0) Z ?_);refine dPc (.ptr 1000000 1) Z (dPc (.p (eI Wg)) Z ?_);refine dO (.rptr (ac.cs (lat OF.fL Wg))) [54,58] Z (λ _ sl Sk K hK=>ap Z (j5 (f:=aF) (l:=OF.fL) ac.cs Z Z Z Z Z Z (Sk _ _ Z) Z (Sk _ _ Z) Ut ac.It Y hK)) (dPc (.p (.agg (ac.cs (lat OF.fL Wg)))) Z ?_);exact J0
  exact J0
 refine lG (λ (Wn:Int)=>⟨[(0,.ptr 1000000 0),(2,.ptr 2 0)],[(2,nI),(1000000,[.p (eL aF OF.fL),.p (eI Wn),.p (eI OF.fIn),.p (eI OF.fD.Ar),.p (eI OF.fD.fAt),.p (eS OF.fD.AI)])]⟩) (λ m (Wn:Int)=>cI OF m Wn) Y OF.fI h1 (gE rfl rfl) ?_;rintro m f8 h1;replace h1:cI OF (m+1) f8=some Wg:=h1;rw [cI] at h1;refine nx 2 rfl (bd h1 λ o24 h2 h1=>?_);refine kN o24 (λ v25=>⟨[(0,.ptr 1000000 0),(2,.ptr 2 0),(33,.p (eB v25))],[(2,nI),(1000000,[.p (eL aF OF.fL),.p (eI f8),.p (eI OF.fIn),.p (eI OF.fD.Ar),.p (eI OF.fD.fAt),.p (eS OF.fD.AI)])]⟩) ?_ ?_
 ·exact ay
 refine fD (p:=0 < OF.fIn) [] h2 Z (λ c9 h2=>?_) λ c9 h2=>?_
 ·refine fD (p:=f8 < (OF.fL.length:Int)) [] h2 Z (λ Yy h2=>?_) λ Yy h2=>?_
  ·refine cc' h2 λ Vt h2=>mD [(0,.ptr 1000000 0),(2,.ptr 2 0)] Z ⟨Z,Z,trivial⟩ Z (dR 4 Z ?_);refine dL (dt c9) Z (dR 9 Z ?_);refine dq (.p (eI (OF.fL.length:Int))) [8,16] Z (λ _ e _ q=>dB (mZ (f:=aF) (l:=OF.fL) Z Z Z Z Z (e _ _ Z) Z q) Z Z (e _ _ Z) (rfl)) Z (dL (dt Yy) Z ?_);refine dR 10 Z (dq (.rptr (ac.cs (lat OF.fL f8))) [20,24,28] Z (λ _ e _ q=>dB (j5 (f:=aF) (l:=OF.fL) ac.cs Z Z Z Z Z Z (e _ _ Z) Z (e _ _ Z) Vt ac.It Y q) Z Z (e _ _ Z) (rfl)) Z ?_);exact bV
  refine mD [(0,.ptr 1000000 0),(2,.ptr 2 0)] Z ⟨Z,Z,trivial⟩ Z (dR 4 Z ?_);refine dL (dt c9) Z (dR 9 Z ?_);refine dq (.p (eI (OF.fL.length:Int))) [8,16] Z (λ _ e _ q=>dB (mZ (f:=aF) (l:=OF.fL) Z Z Z Z Z (e _ _ Z) Z q) Z Z (e _ _ Z) (rfl)) Z (dL (df Yy) Z ?_);exact bV
 refine mD [(0,.ptr 1000000 0),(2,.ptr 2 0)] Z ⟨Z,Z,trivial⟩ Z (dR 4 Z ?_);refine dL (df c9) Z (dR 26 Z ?_);refine dE Z (nx 1 Z ?_);exact bV
def aX (n:Nat)(OF:ai)(s_1:Bytes):Option (Bool×ai) :=
 (bG n OF).bind λ r1 =>
 (
   if r1.1.Ar=4 then
    some (decide (r1.1.B'=s_1))
   else
    some false
  ).bind λ t4 =>
 some (t4,r1.2)
instance Bs (n:Nat) (OF:ai) (s_1:Bytes):∀ (r:Bool×ai),HO (aX n OF s_1=some r) Tryz.prog 108 [.ptr 1000000 0,.p (eS s_1)] [(1000000,((ai.cs OF).map .p))] (.p (eB r.1)) ([(1000000,((ai.cs r.2).map .p))]):=by
 refine hO good [] [1000000] Tryz.func108 Z Z λ r h0 _ w0 F=>?_;unfold aX at h0;have:=js [200];have:=jS 200 Bool λ v=>[(4,.p (eB v))]
 exact J0
def fp (OF:ai)(k_1:Int)(at_2:Int):Option ai :=
 if OF.fD.Ar=0 then
  some (ai.mk OF.fL OF.fI OF.fIn (ao.mk k_1 at_2 ([]:Bytes)))
 else
  some OF
instance y4 (OF:ai) (k_1:Int) (at_2:Int):∀ (r:ai),HO (fp OF k_1 at_2=some r) Tryz.prog 122 [.ptr 1000000 0,.p (eI k_1),.p (eI at_2)] [(1000000,((ai.cs OF).map .p))] (.tuple []) ([(1000000,((ai.cs r).map .p))]):=by
 refine hO good [] [1000000] Tryz.func122 Z Z λ r h0 _ w0 F=>?_;unfold fp at h0;exact J0
def bT (n:Nat)(OF:ai):Option ai :=
 (bG n OF).bind λ r1 =>
 (fp r1.2 2 r1.1.fAt).bind λ r3 =>
 some r3
instance yf (n:Nat) (OF:ai):∀ (r:ai),HO (bT n OF=some r) Tryz.prog 74 [.ptr 1000000 0] [(1000000,((ai.cs OF).map .p))] (.tuple []) ([(1000000,((ai.cs r).map .p))]):=by
 refine hO good [] [1000000] Tryz.func74 Z Z λ r h0 _ w0 F=>?_;unfold bT at h0;exact J0
def bQ (n:Nat)(OF:ai)(s_1:Bytes):Option ai :=
 (
   (aX n OF s_1).bind λ r1 =>
   if (!r1.1)=true then
    (bT n r1.2).bind λ r4 =>
    some (r4.fL,r4.fI,r4.fIn,r4.fD.Ar,r4.fD.fAt,r4.fD.AI)
   else
    some (r1.2.fL,r1.2.fI,r1.2.fIn,r1.2.fD.Ar,r1.2.fD.fAt,r1.2.fD.AI)
  ).bind λ Y4 =>
 ck (inR (Y4.2.1+1)) <|
 some (ai.mk Y4.1 (Y4.2.1+1) Y4.2.2.1 (ao.mk Y4.2.2.2.1 Y4.2.2.2.2.1 Y4.2.2.2.2.2))
instance yF (n:Nat) (OF:ai) (s_1:Bytes):∀ (r:ai),HO (bQ n OF s_1=some r) Tryz.prog 109 [.ptr 1000000 0,.p (eS s_1)] [(1000000,((ai.cs OF).map .p))] (.tuple []) ([(1000000,((ai.cs r).map .p))]):=by
 refine hO good [] [1000000] Tryz.func109 Z Z λ r h0 _ w0 F=>?_;unfold bQ at h0;have:=js [1];have:=jO 1 (List ac×Int×Int×Int×Int×Bytes) λ v=>[(1000000,(pR v))]
 exact J0
def cM (n:Nat)(OF:ai)(e_1:ad):Option (ad×ao×ai) :=
 (au OF).bind λ r1 =>
 if r1.1=true then
  some ((ad.mk 0 0 ([]:Bytes) ([]:Bytes) (am.mk 0 0 ([]:Bytes) [] []) [] 0),r1.2.fD,r1.2)
 else
  (lm n e_1).bind λ r4 =>
  if r4=0 then
   some (e_1,(ao.mk 0 0 ([]:Bytes)),r1.2)
  else
   some ((ad.mk 0 0 ([]:Bytes) ([]:Bytes) (am.mk 0 0 ([]:Bytes) [] []) [] 0),(ao.mk r4 e_1.fAt ([]:Bytes)),r1.2)
instance wH (n:Nat) (OF:ai) (e_1:ad):∀ (r:ad×ao×ai),HO (cM n OF e_1=some r) Tryz.prog 36 [.ptr 1000000 0,.p (.agg (ad.cs e_1))] [(1000000,((ai.cs OF).map .p))] (.tuple [.p (.agg (ad.cs r.1)),.p (.agg (ao.cs r.2.1))]) ([(1000000,((ai.cs r.2.2).map .p))]):=by
 refine hO good [] [1000000] Tryz.func36 Z Z λ r h0 _ w0 F=>?_;unfold cM at h0;exact J0
def fU (SO:am)(N':Int):Option ad :=
 some (ad.mk 1 0 ([]:Bytes) ([]:Bytes) SO [] N')
instance ET (SO:am) (N':Int):∀ (r:ad),HP (fU SO N'=some r) Tryz.prog 42 [.agg (am.cs SO),eI N'] (.p (.agg (ad.cs r))):=by
 refine hP good Tryz.func42 Z Z λ r h0 _ w0=>?_;unfold fU at h0;exact J0
def fK (Mr:Bytes)(SJ:Int)(t_2:Bytes):Option Bool :=
 (
   ck (inR (SJ+(t_2.length:Int))) <|
   if SJ+(t_2.length:Int)<=(Mr.length:Int) then
    ck (inR (SJ+(t_2.length:Int))) <|
    ck ((0:Int)<=SJ/\SJ<=SJ+(t_2.length:Int)/\SJ+(t_2.length:Int)<=(Mr.length:Int)) <|
    some (decide (sub Mr SJ (SJ+(t_2.length:Int))=t_2))
   else
    some false
  ).bind λ t5 =>
 some t5
instance Ft (Mr:Bytes) (SJ:Int) (t_2:Bytes):∀ (r:Bool),HP (fK Mr SJ t_2=some r) Tryz.prog 79 [eS Mr,eI SJ,eS t_2] (.p (eB r)):=by
 refine hP good Tryz.func79 Z Z λ r h0 _ w0=>?_;unfold fK at h0;have:=js [100];have:=jS 100 Bool λ v=>[(6,.p (eB v))]
 exact J0
def dk (Uz:Bytes->Int->Option Int)(Mr:Bytes):Nat->Int->Int->Option (Unit⊕Int)
 | 0,_,_=>none
 | m+1,i22,depth23 =>
 if i22 < (Mr.length:Int) then
  jn (
    ck ((0:Int)<=i22/\i22 < (Mr.length:Int)) <|
    if byt Mr i22=34 then
     ck (inR (i22+1)) <|
     (Uz Mr (i22+1)).bind λ Tw =>
     if Tw < 0 then
      some (.inr (.inr (-1)))
     else
      some (.inl (Tw,depth23))
    else
     (
       ck ((0:Int)<=i22/\i22 < (Mr.length:Int)) <|
       if byt Mr i22=123 then
        ck (inR (depth23+1)) <|
        some (depth23+1)
       else
        some depth23
      ).bind λ depth34 =>
     jn (
       ck ((0:Int)<=i22/\i22 < (Mr.length:Int)) <|
       if byt Mr i22=125 then
        if depth34=0 then
         some (.inr (.inr (.inr i22)))
        else
         ck (inR (depth34 - 1)) <|
         some (.inl (depth34 - 1))
       else
        some (.inl depth34)
      : Option (Int⊕((Int×Int)⊕(Unit⊕Int)))) λ depth39 =>
     ck (inR (i22+1)) <|
     some (.inl (i22+1,depth39))
   : Option ((Int×Int)⊕(Unit⊕Int))) λ VW =>
  dk Uz Mr m VW.1 VW.2
 else
  some (.inl ())
def fc (T0:Bytes->Int->Option Int)(Mr:Bytes):Nat->Int->Option (Unit⊕Int)
 | 0,_=>none
 | m+1,i23 =>
 if i23 < (Mr.length:Int) then
  jn (
    ck ((0:Int)<=i23/\i23 < (Mr.length:Int)) <|
    if byt Mr i23=92 then
     ck (inR (i23+2)) <|
     some (.inl (i23+2))
    else
     ck ((0:Int)<=i23/\i23 < (Mr.length:Int)) <|
     if byt Mr i23=34 then
      ck (inR (i23+1)) <|
      some (.inr (.inr (i23+1)))
     else
      (fK Mr i23 ([36,36,123]:Bytes)).bind λ Wb =>
      if Wb=true then
       ck (inR (i23+3)) <|
       some (.inl (i23+3))
      else
       (fK Mr i23 ([36,123]:Bytes)).bind λ Xd =>
       if Xd=true then
        ck (inR (i23+2)) <|
        (T0 Mr (i23+2)).bind λ Wa =>
        if Wa < 0 then
         some (.inr (.inr (-1)))
        else
         ck (inR (Wa+1)) <|
         some (.inl (Wa+1))
       else
        ck (inR (i23+1)) <|
        some (.inl (i23+1))
   : Option (Int⊕(Unit⊕Int))) λ i44 =>
  fc T0 Mr m i44
 else
  some (.inl ())
mutual
def cF:Nat->Bytes->Int->Option Int
 | 0,_,_=>none
 | n+1,Mr,SJ =>
 jn (dk (gJ n) Mr n SJ 0) λ _q45 =>
 some (-1)
def gJ:Nat->Bytes->Int->Option Int
 | 0,_,_=>none
 | n+1,Mr,SJ =>
 jn (fc (cF n) Mr n SJ) λ _VW =>
 some (-1)
end
theorem qQ (n:Nat):rX (cF n) 80/\rX (gJ n) 127:=by
 induction n with
 | zero=>exact Zr
 | succ n ih =>
 obtain ⟨_,_⟩:=ih;refine ⟨?_,?_⟩
 ·refine λ Mr SJ=>hP good Tryz.func80 Z Z λ r h0 _ w0=>?_;rw [cF] at h0;refine nx 10 rfl ?_;obtain ⟨YI,h1,Tz,hR0⟩:=br h0;refine kEx 0 (λ WU:Unit=>YI=.inl WU) (λ WU=>⟨[],[]⟩) (λ WU hv=>?_) ?_
  ·exact fP
  refine lG (λ (T7:Int×Int)=>⟨[(0,.p (eS Mr)),(1,.p (eI T7.1)),(5,.p (eI T7.2))],[]⟩) (λ m (T7:Int×Int)=>dk (gJ n) Mr m T7.1 T7.2) Y (SJ,0) h1 (gE rfl rfl) ?_;rintro m ⟨i22,depth23⟩ h1;replace h1:dk (gJ n) Mr (m+1) i22 depth23=some YI:=h1;rw [dk] at h1;refine nx 5 rfl (oLs rfl ?_);refine nx 2 rfl (fD [9] h1 rfl (λ XT h1=>?_) λ XT h1=>?_)
  ·refine nx 2 rfl ?_;obtain ⟨X3,h2,hL1,hR1⟩:=br h1;refine kX (λ v53:Int×Int=>X3=.inl v53) (λ v53=>⟨[(0,.p (eS Mr)),(1,.p (eI v53.1)),(5,.p (eI v53.2))],[]⟩) (λ v53 hv=>?_) ?_
   ·have h1:=hL1 _ hv;exact ay
   refine nx 6 Z (oI h2 Z λ VO h2=>?_);refine nx 2 Z (fD [13] h2 Z (λ Yx h2=>?_) λ Yx h2=>?_)
   ·exact bV
   refine nx 3 Z (bd h2 λ o54 h3 h2=>?_);refine kN o54 (λ v55=>⟨[(0,.p (eS Mr)),(1,.p (eI i22)),(5,.p (eI v55))],[]⟩) ?_ ?_
   ·refine nx 2 rfl ?_;obtain ⟨o56,h3,hL2,hR2⟩:=br h2;refine kX (λ v57:Int=>o56=.inl v57) (λ v57=>⟨[(0,.p (eS Mr)),(1,.p (eI i22)),(5,.p (eI v57))],[]⟩) (λ v57 hv=>?_) ?_
    ·have h2:=hL2 _ hv;exact bV
    refine nx 4 Z (oI h3 Z λ W6 h3=>?_);refine nx 2 Z (fD [29] h3 Z (λ XS h3=>?_) λ XS h3=>?_)
    ·refine nx 7 Z (fD [31] h3 Z (λ c37 h3=>?_) λ c37 h3=>?_)
     ·exact nx 7 Z (mQ (hR0 _ (hR1 _ (hR2 _ (oi h3).symm).symm).symm) Z (sr))
     refine nx 4 Z (oA h3 Z Z λ Zl h3=>?_);exact mi
    exact mi
   refine nx 4 Z (oI h3 Z λ XE h3=>?_);refine nx 2 Z (fD [23] h3 Z (λ c32 h3=>?_) λ c32 h3=>?_)
   ·refine nx 3 Z (oA h3 Z Z λ aap h3=>?_);exact mi
   exact mi
  exact ay
 ·refine λ Mr SJ=>hP good Tryz.func127 Z Z λ r h0 _ w0=>?_;rw [gJ] at h0;refine nx 6 rfl ?_;obtain ⟨Yl,h1,Tz,hR0⟩:=br h0;refine kEx 0 (λ WN:Unit=>Yl=.inl WN) (λ WN=>⟨[],[]⟩) (λ WN hv=>?_) ?_
  ·exact fP
  refine lG (λ (Xu:Int)=>⟨[(0,.p (eS Mr)),(1,.p (eI Xu))],[]⟩) (λ m (Xu:Int)=>fc (cF n) Mr m Xu) Y SJ h1 (gE rfl rfl) ?_;rintro m i23 h1;replace h1:fc (cF n) Mr (m+1) i23=some Yl:=h1;rw [fc] at h1;refine nx 5 rfl (oLs rfl ?_);refine nx 2 rfl (fD [9] h1 rfl (λ XT h1=>?_) λ XT h1=>?_)
  ·refine nx 2 rfl ?_;obtain ⟨o51,h2,hL1,hR1⟩:=br h1;refine kX (λ X7:Int=>o51=.inl X7) (λ X7=>⟨[(0,.p (eS Mr)),(1,.p (eI X7))],[]⟩) (λ X7 hv=>?_) ?_
   ·have h1:=hL1 _ hv;exact ay
   exact bV
  exact ay
instance Eg (n:Nat):rX (cF n) 80:=(qQ n).1
def fb (n:Nat)(Mr:Bytes):Nat->Int->Bytes->Option ((Int×Bytes)⊕(Bytes×Int×Int))
 | 0,_,_=>none
 | m+1,i22,Tu =>
 (
   if i22 < (Mr.length:Int) then
    (fK Mr i22 ([36,123]:Bytes)).bind λ UC =>
    some (!UC)
   else
    some false
  ).bind λ t27 =>
 if t27=true then
  jn (
    if 4096 < (Tu.length:Int) then
     some (.inr (.inr (Tu,i22,0)))
    else
     (fK Mr i22 ([36,36,123]:Bytes)).bind λ Wk =>
     if Wk=true then
      ck (Tu.length+([36,123]:Bytes).length<=9223372036854775807) <|
      ck (inR (i22+3)) <|
      some (.inl (i22+3,Tu++([36,123]:Bytes)))
     else
      ck ((0:Int)<=i22/\i22 < (Mr.length:Int)) <|
      if byt Mr i22=34 then
       some (.inr (.inr (([]:Bytes),i22,2)))
      else
       (lV n Mr i22).bind λ Z5 =>
       if Z5.2.2=0 then
        ck (Tu.length+Z5.1.length<=9223372036854775807) <|
        some (.inl (Z5.2.1,Tu++Z5.1))
       else
        some (.inr (.inr (([]:Bytes),i22,Z5.2.2)))
   : Option ((Int×Bytes)⊕((Int×Bytes)⊕(Bytes×Int×Int)))) λ Xv =>
  fb n Mr m Xv.1 Xv.2
 else
  some (.inl (i22,Tu))
def mI (n:Nat)(Mr:Bytes)(SJ:Int):Option (Bytes×Int×Int) :=
 jn (fb n Mr n SJ ([]:Bytes)) λ U6 =>
 some (U6.2,U6.1,0)
instance Lq (n:Nat) (Mr:Bytes) (SJ:Int):∀ (r:Bytes×Int×Int),HP (mI n Mr SJ=some r) Tryz.prog 81 [eS Mr,eI SJ] (.tuple [.p (eS r.1),.p (eI r.2.1),.p (eI r.2.2)]):=by
 refine hP good Tryz.func81 Z Z λ r h0 _ w0=>?_;unfold mI at h0;refine nx 12 rfl ?_;obtain ⟨Wu,h1,Tz,hR0⟩:=br h0;refine kEx 0 (λ v51:Int×Bytes=>Wu=.inl v51) (λ v51=>⟨[(1,.p (eI v51.1)),(7,.p (eS v51.2))],[]⟩) (λ v51 hv=>?_) ?_
 ·exact fP
 refine lG (λ (V4:Int×Bytes)=>⟨[(0,.p (eS Mr)),(1,.p (eI V4.1)),(7,.p (eS V4.2))],[]⟩) (λ m (V4:Int×Bytes)=>fb n Mr m V4.1 V4.2) Y (SJ,([]:Bytes)) h1 (gE rfl rfl) ?_;rintro m ⟨i22,Tu⟩ h1;replace h1:fb n Mr (m+1) i22 Tu=some Wu:=h1;rw [fb] at h1;refine nx 2 rfl (bd h1 λ We h2 h1=>?_);refine kN We (λ Xl=>⟨[(0,.p (eS Mr)),(1,.p (eI i22)),(7,.p (eS Tu)),(20,.p (eB Xl))],[]⟩) ?_ ?_
 ·refine nx 1 Z (fB [20] h1 Z (λ c28 h1=>?_) λ c28 h1=>?_)
  ·refine nx 2 rfl ?_;obtain ⟨o55,h2,hL1,hR1⟩:=br h1;refine kX (λ YO:Int×Bytes=>o55=.inl YO) (λ YO=>⟨[(0,.p (eS Mr)),(1,.p (eI YO.1)),(7,.p (eS YO.2))],[]⟩) (λ YO hv=>?_) ?_
   ·have h1:=hL1 _ hv;exact ay
   exact bV
  exact ay
 exact bV
def cS (n:Nat)(OF:ai)(s_1:Bytes):Option (Bool×ai) :=
 (bG n OF).bind λ r1 =>
 (
   if r1.1.Ar=1 then
    some (decide (r1.1.B'=s_1))
   else
    some false
  ).bind λ t4 =>
 some (t4,r1.2)
instance zO (n:Nat) (OF:ai) (s_1:Bytes):∀ (r:Bool×ai),HO (cS n OF s_1=some r) Tryz.prog 216 [.ptr 1000000 0,.p (eS s_1)] [(1000000,((ai.cs OF).map .p))] (.p (eB r.1)) ([(1000000,((ai.cs r.2).map .p))]):=by
 refine hO good [] [1000000] Tryz.func216 Z Z λ r h0 _ w0 F=>?_;unfold cS at h0;have:=js [200];have:=jS 200 Bool λ v=>[(4,.p (eB v))]
 exact J0
def co (n:Nat)(OF:ai):Option (Bytes×ai) :=
 (bG n OF).bind λ r1 =>
 (
   (
     if r1.1.Ar=1 then
      (ed r1.1.B').bind λ r4 =>
      some r4
     else
      some true
    ).bind λ t6 =>
   if t6=true then
    (bT n r1.2).bind λ r8 =>
    some (r8.fL,r8.fI,r8.fIn,r8.fD.Ar,r8.fD.fAt,r8.fD.AI)
   else
    some (r1.2.fL,r1.2.fI,r1.2.fIn,r1.2.fD.Ar,r1.2.fD.fAt,r1.2.fD.AI)
  ).bind λ Xy =>
 ck (inR (Xy.2.1+1)) <|
 some (r1.1.B',(ai.mk Xy.1 (Xy.2.1+1) Xy.2.2.1 (ao.mk Xy.2.2.2.1 Xy.2.2.2.2.1 Xy.2.2.2.2.2)))
instance vD (n:Nat) (OF:ai):∀ (r:Bytes×ai),HO (co n OF=some r) Tryz.prog 226 [.ptr 1000000 0] [(1000000,((ai.cs OF).map .p))] (.p (eS r.1)) ([(1000000,((ai.cs r.2).map .p))]):=by
 refine hO good [] [1000000] Tryz.func226 Z Z λ r h0 _ w0 F=>?_;unfold co at h0;have:=js [201,200];have:=jO 201 (List ac×Int×Int×Int×Int×Bytes) λ v=>[(1000000,(pR v))]
 have:=jS 200 Bool λ v=>[(13,.p (eB v))]
 exact J0
def mV (SU:Int):Option (List Bytes) :=
 if SU=0 then
  some ([([124,124]:Bytes)])
 else
  if SU=1 then
   some ([([38,38]:Bytes)])
  else
   if SU=2 then
    some ([([61,61]:Bytes),([33,61]:Bytes)])
   else
    if SU=3 then
     some ([([60]:Bytes),([60,61]:Bytes),([62]:Bytes),([62,61]:Bytes)])
    else
     if SU=4 then
      some ([([43]:Bytes),([45]:Bytes)])
     else
      some ([([42]:Bytes),([47]:Bytes),([37]:Bytes)])
instance J1 (SU:Int):∀ (r:(List Bytes)),HP (mV SU=some r) Tryz.prog 168 [eI SU] (.p (eL eS r)):=by
 refine hP good Tryz.func168 Z Z λ r h0 _ w0=>?_;unfold mV at h0;refine nx 15 Z (fD [4,5] h0 Z (λ c1 h0=>?_) λ c1 h0=>?_)
 ·exact Jk
 exact Gp
def mU (SU:Int):Option Int :=
 if SU=0 then
  some 3
 else
  if SU=1 then
   some 4
  else
   if SU=2 then
    some 5
   else
    if SU=3 then
     some 7
    else
     if SU=4 then
      some 11
     else
      some 13
instance G3 (SU:Int):∀ (r:Int),HP (mU SU=some r) Tryz.prog 169 [eI SU] (.p (eI r)):=by
 refine hP good Tryz.func169 Z Z λ r h0 _ w0=>?_;unfold mU at h0;exact J0
def bJ (n:Nat)(O':Int)(r1:(List Bytes)):Nat->Int->(List ac)->Int->Int->Int->Int->Bytes->Option (((List ac)×Int×Int×Int×Int×Bytes)⊕(Int×ai))
 | 0,_,_,_,_,_,_,_=>none
 | m+1,i19,Yv,Yu,Yt,f23,f24,f25 =>
 if i19 < (r1.length:Int) then
  ck ((0:Int)<=i19/\i19 < (r1.length:Int)) <|
  (aX n (ai.mk Yv Yu Yt (ao.mk f23 f24 f25)) (lat r1 i19)).bind λ Tw =>
  if Tw.1=true then
   (mU O').bind λ Wb =>
   ck (inR (Wb+i19)) <|
   some (.inr (Wb+i19,Tw.2))
  else
   ck (inR (i19+1)) <|
   bJ n O' r1 m (i19+1) Tw.2.fL Tw.2.fI Tw.2.fIn Tw.2.fD.Ar Tw.2.fD.fAt Tw.2.fD.AI
 else
  some (.inl (Yv,Yu,Yt,f23,f24,f25))
def dx (n:Nat)(OF:ai)(O':Int):Option (Int×ai) :=
 (mV O').bind λ r1 =>
 jn (bJ n O' r1 n 0 OF.fL OF.fI OF.fIn OF.fD.Ar OF.fD.fAt OF.fD.AI) λ Xw =>
 some (0,(ai.mk Xw.1 Xw.2.1 Xw.2.2.1 (ao.mk Xw.2.2.2.1 Xw.2.2.2.2.1 Xw.2.2.2.2.2)))
instance vm (n:Nat) (OF:ai) (O':Int):∀ (r:Int×ai),HO (dx n OF O'=some r) Tryz.prog 144 [.ptr 1000000 0,.p (eI O')] [(1000000,((ai.cs OF).map .p))] (.p (eI r.1)) ([(1000000,((ai.cs r.2).map .p))]):=by
 refine hO good [] [1000000] Tryz.func144 Z Z λ r h0 _ w0 F=>?_;unfold dx at h0;refine nx 7 rfl (K0 λ r1 h0=>nx 8 rfl ?_);obtain ⟨YI,h1,Tz,hR0⟩:=br h0;refine kEx 0 (λ WU:(List ac)×Int×Int×Int×Int×Bytes=>YI=.inl WU) (λ WU=>⟨[],[(1000000,(pR WU))]⟩) (λ WU hv=>?_) ?_
 ·exact fP
 refine lG (λ (T7:Int×(List ac)×Int×Int×Int×Int×Bytes)=>⟨[(0,.ptr 1000000 0),(1,.p (eI O')),(5,.p (eL eS r1)),(6,.p (eI T7.1))],[(1000000,(pR T7.2))]⟩) (λ m (T7:Int×(List ac)×Int×Int×Int×Int×Bytes)=>bJ n O' r1 m T7.1 T7.2.1 T7.2.2.1 T7.2.2.2.1 T7.2.2.2.2.1 T7.2.2.2.2.2.1 T7.2.2.2.2.2.2) Y (0,OF.fL,OF.fI,OF.fIn,OF.fD.Ar,OF.fD.fAt,OF.fD.AI) h1 (gE rfl rfl) ?_;rintro m ⟨i19,Yv,Yu,Yt,f23,f24,f25⟩ h1;replace h1:bJ n O' r1 (m+1) i19 Yv Yu Yt f23 f24 f25=some YI:=h1;rw [bJ] at h1;exact ay
end Go.Ab.R06
end
section
namespace Go.Ab.R06
open Go.Proofs Go.Ab Go.Ab.RB
section
variable {p:Prop}
theorem Ge (h:p:=by
  exact nx 7 Z (mQo (hR0 _ (hR1 _ (oi h2).symm).symm) (aU _) Z Z Z Z (sr) ⟨⟨_,Z,⟨sr,sr,sr,sr,sr,sr,trivial⟩⟩,trivial⟩)):p:=h
end
set_option maxRecDepth 4000
attribute [local irreducible] awp ik bg bO cv AV.sub M dc
instance QO:HE Tryz.prog 42:=⟨Tryz.call42⟩
instance Rj:HE Tryz.prog 67:=⟨Tryz.call67⟩
instance QJ:HE Tryz.prog 35:=⟨Tryz.call35⟩
instance Re:HE Tryz.prog 81:=⟨Tryz.call81⟩
instance Qz:HE Tryz.prog 109:=⟨Tryz.call109⟩
instance QK:HE Tryz.prog 143:=⟨Tryz.call143⟩
instance P5:HE Tryz.prog 144:=⟨Tryz.call144⟩
instance Pa:HE Tryz.prog 167:=⟨Tryz.call167⟩
instance O8:HE Tryz.prog 187:=⟨Tryz.call187⟩
instance OL:HE Tryz.prog 200:=⟨Tryz.call200⟩
instance PG:HE Tryz.prog 20:=⟨Tryz.call20⟩
instance Qr:HE Tryz.prog 201:=⟨Tryz.call201⟩
instance Oi:HE Tryz.prog 202:=⟨Tryz.call202⟩
instance OE:HE Tryz.prog 203:=⟨Tryz.call203⟩
instance P8:HE Tryz.prog 215:=⟨Tryz.call215⟩
instance N6:HE Tryz.prog 216:=⟨Tryz.call216⟩
instance PQ:HE Tryz.prog 217:=⟨Tryz.call217⟩
instance O6:HE Tryz.prog 226:=⟨Tryz.call226⟩
abbrev nM (F:ai->Option (ad×ai))(k:Nat):Prop:=∀ (a0:ai) (r:ad×ai),HO (F a0=some r) Tryz.prog k [.ptr 1000000 0] [(1000000,((ai.cs a0).map .p))] (.p (.agg (ad.cs r.1))) ([(1000000,((ai.cs r.2).map .p))])
abbrev uG (F:ai->ac->Option (ad×ai))(k:Nat):Prop:=∀ (a0:ai) (a1:ac) (r:ad×ai),HO (F a0 a1=some r) Tryz.prog k [.ptr 1000000 0,.p (.agg (ac.cs a1))] [(1000000,((ai.cs a0).map .p))] (.p (.agg (ad.cs r.1))) ([(1000000,((ai.cs r.2).map .p))])
abbrev ux (F:Bytes->Int->Option (ad×ao))(k:Nat):Prop:=∀ (a0:Bytes) (a1:Int) (r:ad×ao),HP (F a0 a1=some r) Tryz.prog k [eS a0,eI a1] (.tuple [.p (.agg (ad.cs r.1)),.p (.agg (ao.cs r.2))])
abbrev Jz (v:Int×Int×Bytes×Bytes×Int×Int×Bytes×List am×List Bytes×List ad×Int):List AV:=[.p (eI v.1),.p (eI v.2.1),.p (eS v.2.2.1),.p (eS v.2.2.2.1),.p (eI v.2.2.2.2.1),.p (eI v.2.2.2.2.2.1),.p (eS v.2.2.2.2.2.2.1),.p (eL cX v.2.2.2.2.2.2.2.1),.p (eL eS v.2.2.2.2.2.2.2.2.1),.p (eL ak v.2.2.2.2.2.2.2.2.2.1),.p (eI v.2.2.2.2.2.2.2.2.2.2)]
abbrev a6 (v:List ac×Int×Int×Int×Int×Bytes):List AV:=[.p (eL aF v.1),.p (eI v.2.1),.p (eI v.2.2.1),.p (eI v.2.2.2.1),.p (eI v.2.2.2.2.1),.p (eS v.2.2.2.2.2)]
abbrev cU (a0 a1 a2 a3 a4:AV):List AV:=[a0,.p (eI 0),a1,a2,.p (eI 0),.p (eI 0),.p (eS ([]:Bytes)),.p (.val (.slice none 0 0)),.p (.val (.slice none 0 0)),a3,a4]
abbrev eA (a0 a1:AV):List AV:=[.p (eI 11),.p (eI 0),.p (eS ([]:Bytes)),.p (eS ([]:Bytes)),.p (eI 0),.p (eI 0),.p (eS ([]:Bytes)),.p (.val (.slice none 0 0)),.p (.val (.slice none 0 0)),a0,a1]
abbrev mj (a0 a1 a2 a3:AV):List AV:=[a0,.p (eI 0),a1,a2,.p (eI 0),.p (eI 0),.p (eS ([]:Bytes)),.p (.val (.slice none 0 0)),.p (.val (.slice none 0 0)),.p (.val (.slice none 0 0)),a3]
abbrev aE:List AV:=[.p (eI 0),.p (eI 0),.p (eS ([]:Bytes)),.p (eS ([]:Bytes)),.p (eI 0),.p (eI 0),.p (eS ([]:Bytes)),.p (.val (.slice none 0 0)),.p (.val (.slice none 0 0)),.p (.val (.slice none 0 0)),.p (eI 0)]
abbrev Gt:List PV:=[eI 0,eI 0,eS ([]:Bytes),eS ([]:Bytes),eI 0,eI 0,eS ([]:Bytes),.val (.slice none 0 0),.val (.slice none 0 0),.val (.slice none 0 0),eI 0]
abbrev iS:List AV:=[.p (eI 0),.p (eI 0),.p (eS ([]:Bytes))]
def eg (N':Int)(r1:(List ac)×ao):Nat->(List ac)->Int->Option (List ac)
 | 0,_,_=>none
 | m+1,Tl,i15 =>
 if i15 < (r1.1.length:Int) then
  ck ((0:Int)<=i15/\i15 < (r1.1.length:Int)) <|
  ck ((0:Int)<=i15/\i15 < (r1.1.length:Int)) <|
  ck ((0:Int)<=i15/\i15 < (r1.1.length:Int)) <|
  ck (inR (((lat r1.1 i15).fAt)+N')) <|
  ck ((Tl.length+[(ac.mk ((lat r1.1 i15).Ar) ((lat r1.1 i15).B') (((lat r1.1 i15).fAt)+N'))].length)*32<=140737488355328) <|
  ck (inR (i15+1)) <|
  eg N' r1 m (Tl++[(ac.mk ((lat r1.1 i15).Ar) ((lat r1.1 i15).B') (((lat r1.1 i15).fAt)+N'))]) (i15+1)
 else
  some Tl
def cB (n:Nat)(Uf:Bytes->Int->Option (ad×ao))(Mr:Bytes)(N':Int):Nat->(List ad)->Bool->Int->Option (((List ad)×Bool)⊕((List ad)×Bool×ao))
 | 0,_,_,_=>none
 | m+1,Up,open36,i37 =>
 if i37 < (Mr.length:Int) then
  jn (
    (fK Mr i37 ([36,123]:Bytes)).bind λ Wa =>
    if Wa=true then
     ck (inR (i37+2)) <|
     (cF n Mr (i37+2)).bind λ UR =>
     if UR < 0 then
      ck (inR (N'+i37)) <|
      some (.inr (.inr ([],false,(ao.mk 40 (N'+i37) ([]:Bytes)))))
     else
      ck (inR (i37+2)) <|
      ck ((0:Int)<=i37+2/\i37+2<=UR/\UR<=(Mr.length:Int)) <|
      ck (inR (N'+i37)) <|
      ck (inR ((N'+i37)+2)) <|
      (Uf (sub Mr (i37+2) UR) ((N'+i37)+2)).bind λ TP =>
      if TP.2.Ar=0 then
       ck ((Up.length+[TP.1].length)*160<=140737488355328) <|
       ck (inR (UR+1)) <|
       some (.inl (Up++[TP.1],true,UR+1))
      else
       some (.inr (.inr ([],false,TP.2)))
    else
     (mI n Mr i37).bind λ Uv =>
     if Uv.2.2=0 then
      if 4096 < (Uv.1.length:Int) then
       ck (inR (N'+i37)) <|
       some (.inr (.inr ([],false,(ao.mk 3 (N'+i37) ([]:Bytes)))))
      else
       ck (inR (N'+i37)) <|
       (fU (am.mk 3 0 Uv.1 [] []) (N'+i37)).bind λ U9 =>
       ck ((Up.length+[U9].length)*160<=140737488355328) <|
       some (.inl (Up++[U9],open36,Uv.2.1))
     else
      ck (inR (N'+Uv.2.1)) <|
      some (.inr (.inr ([],false,(ao.mk Uv.2.2 (N'+Uv.2.1) ([]:Bytes)))))
   : Option (((List ad)×Bool×Int)⊕(((List ad)×Bool)⊕((List ad)×Bool×ao)))) λ Wl =>
  cB n Uf Mr N' m Wl.1 Wl.2.1 Wl.2.2
 else
  some (.inl (Up,open36))
def bM (n:Nat)(TJ:ai->Int->Option (ad×ai))(O':Int)(r5:ad×ai):Nat->Int->Int->Bytes->Bytes->Int->Int->Bytes->(List am)->(List Bytes)->(List ad)->(List ac)->Int->Int->Int->Int->Bytes->Option (Int×Int×Bytes×Bytes×Int×Int×Bytes×(List am)×(List Bytes)×(List ad)×(List ac)×Int×Int×Int×Int×Bytes)
 | 0,_,_,_,_,_,_,_,_,_,_,_,_,_,_,_,_=>none
 | m+1,Vi,Vh,VG,VF,XO,XN,WM,WL,WK,Vu,VR,WJ,XM,XL,XK,XJ =>
 (
   (au (ai.mk VR WJ XM (ao.mk XL XK XJ))).bind λ TV =>
   if (!TV.1)=true then
    (dx n TV.2 O').bind λ TO =>
    some (!decide (TO.1=0),TO.2.fL,TO.2.fI,TO.2.fIn,TO.2.fD.Ar,TO.2.fD.fAt,TO.2.fD.AI)
   else
    some (false,TV.2.fL,TV.2.fI,TV.2.fIn,TV.2.fD.Ar,TV.2.fD.fAt,TV.2.fD.AI)
  ).bind λ U0 =>
 if U0.1=true then
  (dx n (ai.mk U0.2.1 U0.2.2.1 U0.2.2.2.1 (ao.mk U0.2.2.2.2.1 U0.2.2.2.2.2.1 U0.2.2.2.2.2.2)) O').bind λ Xo =>
  ck (inR (Xo.2.fI+1)) <|
  ck (inR (O'+1)) <|
  (TJ (ai.mk Xo.2.fL (Xo.2.fI+1) Xo.2.fIn Xo.2.fD) (O'+1)).bind λ U8 =>
  bM n TJ O' r5 m 7 Xo.1 ([]:Bytes) ([]:Bytes) 0 0 ([]:Bytes) [] [] [(ad.mk Vi Vh VG VF (am.mk XO XN WM WL WK) Vu r5.1.fAt),U8.1] U8.2.fL U8.2.fI U8.2.fIn U8.2.fD.Ar U8.2.fD.fAt U8.2.fD.AI
 else
  some (Vi,Vh,VG,VF,XO,XN,WM,WL,WK,Vu,U0.2.1,U0.2.2.1,U0.2.2.2.1,U0.2.2.2.2.1,U0.2.2.2.2.2.1,U0.2.2.2.2.2.2)
def ba (n:Nat)(S7:ai->Option (ad×ai))(r1:ad×ai):Nat->Int->Int->Bytes->Bytes->Int->Int->Bytes->(List am)->(List Bytes)->(List ad)->(List ac)->Int->Int->Int->Int->Bytes->Option ((Int×Int×Bytes×Bytes×Int×Int×Bytes×(List am)×(List Bytes)×(List ad)×(List ac)×Int×Int×Int×Int×Bytes)⊕(ad×ai))
 | 0,_,_,_,_,_,_,_,_,_,_,_,_,_,_,_,_=>none
 | m+1,VQ,WI,WH,WG,WF,WE,WC,WB,TT,WA,Zu,Zt,Zs,Zq,Zp,f75 =>
 (au (ai.mk Zu Zt Zs (ao.mk Zq Zp f75))).bind λ VE =>
 if (!VE.1)=true then
  jn (
    (aX n VE.2 ([46]:Bytes)).bind λ YB =>
    if YB.1=true then
     ck (inR (YB.2.fI+1)) <|
     (bG n (ai.mk YB.2.fL (YB.2.fI+1) YB.2.fIn YB.2.fD)).bind λ Vx =>
     if Vx.1.Ar=1 then
      ck (inR (Vx.2.fI+1)) <|
      some (.inl (4,Vx.1.B',[(ad.mk VQ WI WH WG (am.mk WF WE WC WB TT) WA r1.1.fAt)],Vx.2.fL,Vx.2.fI+1,Vx.2.fIn,Vx.2.fD.Ar,Vx.2.fD.fAt,Vx.2.fD.AI))
     else
      (bT n Vx.2).bind λ r86 =>
      some (.inr (.inr ((ad.mk VQ WI WH WG (am.mk WF WE WC WB TT) WA r1.1.fAt),r86)))
    else
     (aX n YB.2 ([91]:Bytes)).bind λ Yc =>
     if Yc.1=true then
      ck (inR (Yc.2.fI+1)) <|
      ck (inR (Yc.2.fIn+1)) <|
      (S7 (ai.mk Yc.2.fL (Yc.2.fI+1) (Yc.2.fIn+1) Yc.2.fD)).bind λ Vn =>
      (
        (au Vn.2).bind λ Xn =>
        if (!Xn.1)=true then
         (bQ n Xn.2 ([93]:Bytes)).bind λ YW =>
         some (YW.fL,YW.fI,YW.fIn,YW.fD.Ar,YW.fD.fAt,YW.fD.AI)
        else
         some (Xn.2.fL,Xn.2.fI,Xn.2.fIn,Xn.2.fD.Ar,Xn.2.fD.fAt,Xn.2.fD.AI)
       ).bind λ Wp =>
      ck (inR (Wp.2.2.1 - 1)) <|
      some (.inl (5,([]:Bytes),[(ad.mk VQ WI WH WG (am.mk WF WE WC WB TT) WA r1.1.fAt),Vn.1],Wp.1,Wp.2.1,Wp.2.2.1 - 1,Wp.2.2.2.1,Wp.2.2.2.2.1,Wp.2.2.2.2.2))
     else
      some (.inr (.inr ((ad.mk VQ WI WH WG (am.mk WF WE WC WB TT) WA r1.1.fAt),Yc.2)))
   : Option ((Int×Bytes×(List ad)×(List ac)×Int×Int×Int×Int×Bytes)⊕((Int×Int×Bytes×Bytes×Int×Int×Bytes×(List am)×(List Bytes)×(List ad)×(List ac)×Int×Int×Int×Int×Bytes)⊕(ad×ai)))) λ VL =>
  ba n S7 r1 m VL.1 0 VL.2.1 ([]:Bytes) 0 0 ([]:Bytes) [] [] VL.2.2.1 VL.2.2.2.1 VL.2.2.2.2.1 VL.2.2.2.2.2.1 VL.2.2.2.2.2.2.1 VL.2.2.2.2.2.2.2.1 VL.2.2.2.2.2.2.2.2
 else
  some (.inl (VQ,WI,WH,WG,WF,WE,WC,WB,TT,WA,VE.2.fL,VE.2.fI,VE.2.fIn,VE.2.fD.Ar,VE.2.fD.fAt,VE.2.fD.AI))
def bn (n:Nat)(TS:ai->Option (ad×ai))(TQ:ai->Option (ad×ai)):Nat->(List ad)->(List ac)->Int->Int->Int->Int->Bytes->Option ((List ad)×(List ac)×Int×Int×Int×Int×Bytes)
 | 0,_,_,_,_,_,_,_=>none
 | m+1,TT,WA,Zu,Zt,Zs,Zq,Zp =>
 (
   (au (ai.mk WA Zu Zt (ao.mk Zs Zq Zp))).bind λ U8 =>
   if (!U8.1)=true then
    (aX n U8.2 ([125]:Bytes)).bind λ V9 =>
    some (!V9.1,V9.2.fL,V9.2.fI,V9.2.fIn,V9.2.fD.Ar,V9.2.fD.fAt,V9.2.fD.AI)
   else
    some (false,U8.2.fL,U8.2.fI,U8.2.fIn,U8.2.fD.Ar,U8.2.fD.fAt,U8.2.fD.AI)
  ).bind λ UV =>
 if UV.1=true then
  (
    (TS (ai.mk UV.2.1 UV.2.2.1 UV.2.2.2.1 (ao.mk UV.2.2.2.2.1 UV.2.2.2.2.2.1 UV.2.2.2.2.2.2))).bind λ UB =>
    ck ((TT.length+[UB.1].length)*160<=140737488355328) <|
    (
      (au UB.2).bind λ Yb =>
      if (!Yb.1)=true then
       (bQ n Yb.2 ([61]:Bytes)).bind λ Vn =>
       some (Vn.fL,Vn.fI,Vn.fIn,Vn.fD.Ar,Vn.fD.fAt,Vn.fD.AI)
      else
       some (Yb.2.fL,Yb.2.fI,Yb.2.fIn,Yb.2.fD.Ar,Yb.2.fD.fAt,Yb.2.fD.AI)
     ).bind λ WZ =>
    (TQ (ai.mk WZ.1 WZ.2.1 WZ.2.2.1 (ao.mk WZ.2.2.2.1 WZ.2.2.2.2.1 WZ.2.2.2.2.2))).bind λ Ur =>
    ck (((TT++[UB.1]).length+[Ur.1].length)*160<=140737488355328) <|
    (
      (au Ur.2).bind λ VK =>
      if (!VK.1)=true then
       (aX n VK.2 ([125]:Bytes)).bind λ TL =>
       some (!TL.1,TL.2.fL,TL.2.fI,TL.2.fIn,TL.2.fD.Ar,TL.2.fD.fAt,TL.2.fD.AI)
      else
       some (false,VK.2.fL,VK.2.fI,VK.2.fIn,VK.2.fD.Ar,VK.2.fD.fAt,VK.2.fD.AI)
     ).bind λ UU =>
    if UU.1=true then
     (bQ n (ai.mk UU.2.1 UU.2.2.1 UU.2.2.2.1 (ao.mk UU.2.2.2.2.1 UU.2.2.2.2.2.1 UU.2.2.2.2.2.2)) ([44]:Bytes)).bind λ Uq =>
     some ((TT++[UB.1])++[Ur.1],Uq.fL,Uq.fI,Uq.fIn,Uq.fD.Ar,Uq.fD.fAt,Uq.fD.AI)
    else
     some ((TT++[UB.1])++[Ur.1],UU.2.1,UU.2.2.1,UU.2.2.2.1,UU.2.2.2.2.1,UU.2.2.2.2.2.1,UU.2.2.2.2.2.2)
   ).bind λ Tm =>
  bn n TS TQ m Tm.1 Tm.2.1 Tm.2.2.1 Tm.2.2.2.1 Tm.2.2.2.2.1 Tm.2.2.2.2.2.1 Tm.2.2.2.2.2.2
 else
  some (TT,UV.2.1,UV.2.2.1,UV.2.2.2.1,UV.2.2.2.2.1,UV.2.2.2.2.2.1,UV.2.2.2.2.2.2)
def bu (n:Nat)(S7:ai->Option (ad×ai))(end_1:Bytes):Nat->(List ad)->(List ac)->Int->Int->Int->Int->Bytes->Option ((List ad)×(List ac)×Int×Int×Int×Int×Bytes)
 | 0,_,_,_,_,_,_,_=>none
 | m+1,UI,WM,WL,WK,Vu,VR,WJ =>
 (
   (au (ai.mk WM WL WK (ao.mk Vu VR WJ))).bind λ UM =>
   if (!UM.1)=true then
    (aX n UM.2 end_1).bind λ X0 =>
    some (!X0.1,X0.2.fL,X0.2.fI,X0.2.fIn,X0.2.fD.Ar,X0.2.fD.fAt,X0.2.fD.AI)
   else
    some (false,UM.2.fL,UM.2.fI,UM.2.fIn,UM.2.fD.Ar,UM.2.fD.fAt,UM.2.fD.AI)
  ).bind λ UZ =>
 if UZ.1=true then
  (
    (S7 (ai.mk UZ.2.1 UZ.2.2.1 UZ.2.2.2.1 (ao.mk UZ.2.2.2.2.1 UZ.2.2.2.2.2.1 UZ.2.2.2.2.2.2))).bind λ YC =>
    ck ((UI.length+[YC.1].length)*160<=140737488355328) <|
    (
      (au YC.2).bind λ Yd =>
      if (!Yd.1)=true then
       (aX n Yd.2 end_1).bind λ Uu =>
       some (!Uu.1,Uu.2.fL,Uu.2.fI,Uu.2.fIn,Uu.2.fD.Ar,Uu.2.fD.fAt,Uu.2.fD.AI)
      else
       some (false,Yd.2.fL,Yd.2.fI,Yd.2.fIn,Yd.2.fD.Ar,Yd.2.fD.fAt,Yd.2.fD.AI)
     ).bind λ UY =>
    if UY.1=true then
     (bQ n (ai.mk UY.2.1 UY.2.2.1 UY.2.2.2.1 (ao.mk UY.2.2.2.2.1 UY.2.2.2.2.2.1 UY.2.2.2.2.2.2)) ([44]:Bytes)).bind λ Vx =>
     some (UI++[YC.1],Vx.fL,Vx.fI,Vx.fIn,Vx.fD.Ar,Vx.fD.fAt,Vx.fD.AI)
    else
     some (UI++[YC.1],UY.2.1,UY.2.2.1,UY.2.2.2.1,UY.2.2.2.2.1,UY.2.2.2.2.2.1,UY.2.2.2.2.2.2)
   ).bind λ Wt =>
  bu n S7 end_1 m Wt.1 Wt.2.1 Wt.2.2.1 Wt.2.2.2.1 Wt.2.2.2.2.1 Wt.2.2.2.2.2.1 Wt.2.2.2.2.2.2
 else
  some (UI,UZ.2.1,UZ.2.2.1,UZ.2.2.2.1,UZ.2.2.2.2.1,UZ.2.2.2.2.2.1,UZ.2.2.2.2.2.2)
mutual
def gT:Nat->Bytes->Int->Option (ad×ao)
 | 0,_,_=>none
 | n+1,Mr,N' =>
 ((lq n) Mr N').bind λ r1 =>
 (
   if (!r1.2.1)=true then
    (fU (am.mk 3 0 ([]:Bytes) [] []) N').bind λ r4 =>
    if (r1.1.length:Int)=1 then
     ck ((0:Int)<=0/\0 < (r1.1.length:Int)) <|
     some (r4.Ar,r4.fOp,r4.AI,r4.Gw,r4.A'.Ar,r4.A'.E',((lat r1.1 0).A').If,r4.A'.Df,r4.A'.C',r4.By,r4.fAt)
    else
     some (r4.Ar,r4.fOp,r4.AI,r4.Gw,r4.A'.Ar,r4.A'.E',r4.A'.If,r4.A'.Df,r4.A'.C',r4.By,r4.fAt)
   else
    some (2,0,([]:Bytes),([]:Bytes),0,0,([]:Bytes),[],[],r1.1,N')
  ).bind λ Wo =>
 (cM n (ai.mk [] 0 0 r1.2.2) (ad.mk Wo.1 Wo.2.1 Wo.2.2.1 Wo.2.2.2.1 (am.mk Wo.2.2.2.2.1 Wo.2.2.2.2.2.1 Wo.2.2.2.2.2.2.1 Wo.2.2.2.2.2.2.2.1 Wo.2.2.2.2.2.2.2.2.1) Wo.2.2.2.2.2.2.2.2.2.1 Wo.2.2.2.2.2.2.2.2.2.2)).bind λ Va =>
 some (Va.1,Va.2.1)
def db:Nat->Bytes->Int->Option (ad×ao)
 | 0,_,_=>none
 | n+1,Mr,N' =>
 (lY n Mr).bind λ r1 =>
 if r1.2.Ar=0 then
  (eg N' r1 n [] 0).bind λ Ym =>
  ((aK n) (ai.mk Ym 0 1 (ao.mk 0 0 ([]:Bytes)))).bind λ TR =>
  (
    (
      (au TR.2).bind λ Tw =>
      if (!Tw.1)=true then
       (bG n Tw.2).bind λ Wb =>
       some (!decide (Wb.1.Ar=6),Wb.2.fL,Wb.2.fI,Wb.2.fIn,Wb.2.fD.Ar,Wb.2.fD.fAt,Wb.2.fD.AI)
      else
       some (false,Tw.2.fL,Tw.2.fI,Tw.2.fIn,Tw.2.fD.Ar,Tw.2.fD.fAt,Tw.2.fD.AI)
     ).bind λ T7 =>
    if T7.1=true then
     (bT n (ai.mk T7.2.1 T7.2.2.1 T7.2.2.2.1 (ao.mk T7.2.2.2.2.1 T7.2.2.2.2.2.1 T7.2.2.2.2.2.2))).bind λ Yf =>
     some (Yf.fL,Yf.fI,Yf.fIn,Yf.fD.Ar,Yf.fD.fAt,Yf.fD.AI)
    else
     some (T7.2.1,T7.2.2.1,T7.2.2.2.1,T7.2.2.2.2.1,T7.2.2.2.2.2.1,T7.2.2.2.2.2.2)
   ).bind λ Xu =>
  some (TR.1,(ao.mk Xu.2.2.2.1 Xu.2.2.2.2.1 Xu.2.2.2.2.2))
 else
  ck (inR (r1.2.fAt+N')) <|
  some ((ad.mk 0 0 ([]:Bytes) ([]:Bytes) (am.mk 0 0 ([]:Bytes) [] []) [] 0),(ao.mk r1.2.Ar (r1.2.fAt+N') ([]:Bytes)))
def lq:Nat->Bytes->Int->Option ((List ad)×Bool×ao)
 | 0,_,_=>none
 | n+1,Mr,N' =>
 jn (cB n (db n) Mr N' n [] false 0) λ q74 =>
 some (q74.1,q74.2,(ao.mk 0 0 ([]:Bytes)))
def aK:Nat->ai->Option (ad×ai)
 | 0,_=>none
 | n+1,OF =>
 ((bA n) OF 0).bind λ r1 =>
 (
   (au r1.2).bind λ r3 =>
   if r3.1=true then
    some (true,r3.2.fL,r3.2.fI,r3.2.fIn,r3.2.fD.Ar,r3.2.fD.fAt,r3.2.fD.AI)
   else
    (aX n r3.2 ([63]:Bytes)).bind λ r6 =>
    some (!r6.1,r6.2.fL,r6.2.fI,r6.2.fIn,r6.2.fD.Ar,r6.2.fD.fAt,r6.2.fD.AI)
  ).bind λ Uw =>
 if Uw.1=true then
  some (r1.1,(ai.mk Uw.2.1 Uw.2.2.1 Uw.2.2.2.1 (ao.mk Uw.2.2.2.2.1 Uw.2.2.2.2.2.1 Uw.2.2.2.2.2.2)))
 else
  ck (inR (Uw.2.2.1+1)) <|
  ((aK n) (ai.mk Uw.2.1 (Uw.2.2.1+1) Uw.2.2.2.1 (ao.mk Uw.2.2.2.2.1 Uw.2.2.2.2.2.1 Uw.2.2.2.2.2.2))).bind λ VJ =>
  (au VJ.2).bind λ Va =>
  if Va.1=true then
   some (r1.1,Va.2)
  else
   (bQ n Va.2 ([58]:Bytes)).bind λ U' =>
   (au U').bind λ Vq =>
   if Vq.1=true then
    some (r1.1,Vq.2)
   else
    ((aK n) Vq.2).bind λ Ua =>
    some ((ad.mk 8 0 ([]:Bytes) ([]:Bytes) (am.mk 0 0 ([]:Bytes) [] []) [r1.1,VJ.1,Ua.1] r1.1.fAt),Ua.2)
def bA:Nat->ai->Int->Option (ad×ai)
 | 0,_,_=>none
 | n+1,OF,O' =>
 if 5 < O' then
  ((dJ n) OF).bind λ r2 =>
  some (r2.1,r2.2)
 else
  ck (inR (O'+1)) <|
  ((bA n) OF (O'+1)).bind λ r5 =>
  (bM n (bA n) O' r5 n r5.1.Ar r5.1.fOp r5.1.AI r5.1.Gw r5.1.A'.Ar r5.1.A'.E' r5.1.A'.If r5.1.A'.Df r5.1.A'.C' r5.1.By r5.2.fL r5.2.fI r5.2.fIn r5.2.fD.Ar r5.2.fD.fAt r5.2.fD.AI).bind λ Ud =>
  some ((ad.mk Ud.1 Ud.2.1 Ud.2.2.1 Ud.2.2.2.1 (am.mk Ud.2.2.2.2.1 Ud.2.2.2.2.2.1 Ud.2.2.2.2.2.2.1 Ud.2.2.2.2.2.2.2.1 Ud.2.2.2.2.2.2.2.2.1) Ud.2.2.2.2.2.2.2.2.2.1 r5.1.fAt),(ai.mk Ud.2.2.2.2.2.2.2.2.2.2.1 Ud.2.2.2.2.2.2.2.2.2.2.2.1 Ud.2.2.2.2.2.2.2.2.2.2.2.2.1 (ao.mk Ud.2.2.2.2.2.2.2.2.2.2.2.2.2.1 Ud.2.2.2.2.2.2.2.2.2.2.2.2.2.2.1 Ud.2.2.2.2.2.2.2.2.2.2.2.2.2.2.2)))
def dJ:Nat->ai->Option (ad×ai)
 | 0,_=>none
 | n+1,OF =>
 (bG n OF).bind λ r1 =>
 (
   (aX n r1.2 ([33]:Bytes)).bind λ r3 =>
   if r3.1=true then
    some (1,r3.2.fL,r3.2.fI,r3.2.fIn,r3.2.fD.Ar,r3.2.fD.fAt,r3.2.fD.AI)
   else
    some (0,r3.2.fL,r3.2.fI,r3.2.fIn,r3.2.fD.Ar,r3.2.fD.fAt,r3.2.fD.AI)
  ).bind λ Uw =>
 (
   (aX n (ai.mk Uw.2.1 Uw.2.2.1 Uw.2.2.2.1 (ao.mk Uw.2.2.2.2.1 Uw.2.2.2.2.2.1 Uw.2.2.2.2.2.2)) ([45]:Bytes)).bind λ US =>
   if US.1=true then
    some (2,US.2.fL,US.2.fI,US.2.fIn,US.2.fD.Ar,US.2.fD.fAt,US.2.fD.AI)
   else
    some (Uw.1,US.2.fL,US.2.fI,US.2.fIn,US.2.fD.Ar,US.2.fD.fAt,US.2.fD.AI)
  ).bind λ Wm =>
 if Wm.1=0 then
  ((fk n) (ai.mk Wm.2.1 Wm.2.2.1 Wm.2.2.2.1 (ao.mk Wm.2.2.2.2.1 Wm.2.2.2.2.2.1 Wm.2.2.2.2.2.2))).bind λ Vq =>
  some (Vq.1,Vq.2)
 else
  ck (inR (Wm.2.2.1+1)) <|
  ((dJ n) (ai.mk Wm.2.1 (Wm.2.2.1+1) Wm.2.2.2.1 (ao.mk Wm.2.2.2.2.1 Wm.2.2.2.2.2.1 Wm.2.2.2.2.2.2))).bind λ Ua =>
  some ((ad.mk 6 Wm.1 ([]:Bytes) ([]:Bytes) (am.mk 0 0 ([]:Bytes) [] []) [Ua.1] r1.1.fAt),Ua.2)
def fk:Nat->ai->Option (ad×ai)
 | 0,_=>none
 | n+1,OF =>
 ((bB n) OF).bind λ r1 =>
 jn (ba n (aK n) r1 n r1.1.Ar r1.1.fOp r1.1.AI r1.1.Gw r1.1.A'.Ar r1.1.A'.E' r1.1.A'.If r1.1.A'.Df r1.1.A'.C' r1.1.By r1.2.fL r1.2.fI r1.2.fIn r1.2.fD.Ar r1.2.fD.fAt r1.2.fD.AI) λ Uc =>
 some ((ad.mk Uc.1 Uc.2.1 Uc.2.2.1 Uc.2.2.2.1 (am.mk Uc.2.2.2.2.1 Uc.2.2.2.2.2.1 Uc.2.2.2.2.2.2.1 Uc.2.2.2.2.2.2.2.1 Uc.2.2.2.2.2.2.2.2.1) Uc.2.2.2.2.2.2.2.2.2.1 r1.1.fAt),(ai.mk Uc.2.2.2.2.2.2.2.2.2.2.1 Uc.2.2.2.2.2.2.2.2.2.2.2.1 Uc.2.2.2.2.2.2.2.2.2.2.2.2.1 (ao.mk Uc.2.2.2.2.2.2.2.2.2.2.2.2.2.1 Uc.2.2.2.2.2.2.2.2.2.2.2.2.2.2.1 Uc.2.2.2.2.2.2.2.2.2.2.2.2.2.2.2)))
def bB:Nat->ai->Option (ad×ai)
 | 0,_=>none
 | n+1,OF =>
 (bG n OF).bind λ r1 =>
 if r1.1.Ar=2 then
  (kR n r1.1.B').bind λ r4 =>
  (
    if r4.2=0 then
     some (r1.2.fL,r1.2.fI,r1.2.fIn,r1.2.fD.Ar,r1.2.fD.fAt,r1.2.fD.AI)
    else
     (fp r1.2 r4.2 r1.1.fAt).bind λ r7 =>
     some (r7.fL,r7.fI,r7.fIn,r7.fD.Ar,r7.fD.fAt,r7.fD.AI)
   ).bind λ Wd =>
  ck (inR (Wd.2.1+1)) <|
  (fU (am.mk 2 r4.1 ([]:Bytes) [] []) r1.1.fAt).bind λ WP =>
  some (WP,(ai.mk Wd.1 (Wd.2.1+1) Wd.2.2.1 (ao.mk Wd.2.2.2.1 Wd.2.2.2.2.1 Wd.2.2.2.2.2)))
 else
  if r1.1.Ar=3 then
   ck (inR (r1.1.fAt+1)) <|
   ((gT n) r1.1.B' (r1.1.fAt+1)).bind λ T5 =>
   (
     if T5.2.Ar=0 then
      some (r1.2.fL,r1.2.fI,r1.2.fIn,r1.2.fD.Ar,r1.2.fD.fAt,r1.2.fD.AI)
     else
      (fp r1.2 T5.2.Ar T5.2.fAt).bind λ Tp =>
      some (Tp.fL,Tp.fI,Tp.fIn,Tp.fD.Ar,Tp.fD.fAt,Tp.fD.AI)
    ).bind λ Y1 =>
   ck (inR (Y1.2.1+1)) <|
   some ((ad.mk T5.1.Ar T5.1.fOp T5.1.AI T5.1.Gw T5.1.A' T5.1.By r1.1.fAt),(ai.mk Y1.1 (Y1.2.1+1) Y1.2.2.1 (ao.mk Y1.2.2.2.1 Y1.2.2.2.2.1 Y1.2.2.2.2.2)))
  else
   if r1.1.Ar=1 then
    ((fw n) r1.2 r1.1).bind λ Vo =>
    some (Vo.1,Vo.2)
   else
    (aX n r1.2 ([40]:Bytes)).bind λ Xd =>
    if Xd.1=true then
     ck (inR (Xd.2.fI+1)) <|
     ck (inR (Xd.2.fIn+1)) <|
     ((aK n) (ai.mk Xd.2.fL (Xd.2.fI+1) (Xd.2.fIn+1) Xd.2.fD)).bind λ Xq =>
     (
       (au Xq.2).bind λ Um =>
       if (!Um.1)=true then
        (bQ n Um.2 ([41]:Bytes)).bind λ V2 =>
        some (V2.fL,V2.fI,V2.fIn,V2.fD.Ar,V2.fD.fAt,V2.fD.AI)
       else
        some (Um.2.fL,Um.2.fI,Um.2.fIn,Um.2.fD.Ar,Um.2.fD.fAt,Um.2.fD.AI)
      ).bind λ Y0 =>
     ck (inR (Y0.2.2.1 - 1)) <|
     some (Xq.1,(ai.mk Y0.1 Y0.2.1 (Y0.2.2.1 - 1) (ao.mk Y0.2.2.2.1 Y0.2.2.2.2.1 Y0.2.2.2.2.2)))
    else
     (aX n Xd.2 ([91]:Bytes)).bind λ UM =>
     if UM.1=true then
      ((iE n) UM.2 r1.1).bind λ X0 =>
      some (X0.1,X0.2)
     else
      (aX n UM.2 ([123]:Bytes)).bind λ Xp =>
      if Xp.1=true then
       ((gP n) Xp.2 r1.1).bind λ r62 =>
       some (r62.1,r62.2)
      else
       (bT n Xp.2).bind λ r64 =>
       some ((ad.mk 0 0 ([]:Bytes) ([]:Bytes) (am.mk 0 0 ([]:Bytes) [] []) [] 0),r64)
def fw:Nat->ai->ac->Option (ad×ai)
 | 0,_,_=>none
 | n+1,OF,t_1 =>
 if t_1.B'=([110,117,108,108]:Bytes) then
  ck (inR (OF.fI+1)) <|
  (fU (am.mk 0 0 ([]:Bytes) [] []) t_1.fAt).bind λ r3 =>
  some (r3,(ai.mk OF.fL (OF.fI+1) OF.fIn OF.fD))
 else
  (
    if t_1.B'=([116,114,117,101]:Bytes) then
     some true
    else
     some (decide (t_1.B'=([102,97,108,115,101]:Bytes)))
   ).bind λ t6 =>
  if t6=true then
   ck (inR (OF.fI+1)) <|
   (
     if t_1.B'=([116,114,117,101]:Bytes) then
      some 1
     else
      some 0
    ).bind λ f10 =>
   (fU (am.mk 1 f10 ([]:Bytes) [] []) t_1.fAt).bind λ VU =>
   some (VU,(ai.mk OF.fL (OF.fI+1) OF.fIn OF.fD))
  else
   (ed t_1.B').bind λ US =>
   if US=true then
    (bT n OF).bind λ WP =>
    some ((ad.mk 0 0 ([]:Bytes) ([]:Bytes) (am.mk 0 0 ([]:Bytes) [] []) [] 0),WP)
   else
    ck (inR (OF.fI+1)) <|
    (aX n (ai.mk OF.fL (OF.fI+1) OF.fIn OF.fD) ([40]:Bytes)).bind λ Va =>
    if (!Va.1)=true then
     some ((ad.mk 3 0 t_1.B' ([]:Bytes) (am.mk 0 0 ([]:Bytes) [] []) [] t_1.fAt),Va.2)
    else
     ck (inR (Va.2.fI+1)) <|
     ((eQ n) (ai.mk Va.2.fL (Va.2.fI+1) Va.2.fIn Va.2.fD) ([41]:Bytes)).bind λ Tp =>
     some ((ad.mk 9 0 t_1.B' ([]:Bytes) (am.mk 0 0 ([]:Bytes) [] []) Tp.1 t_1.fAt),Tp.2)
def iE:Nat->ai->ac->Option (ad×ai)
 | 0,_,_=>none
 | n+1,OF,t_1 =>
 ck (inR (OF.fI+1)) <|
 ck (inR (OF.fIn+1)) <|
 (cS n (ai.mk OF.fL (OF.fI+1) (OF.fIn+1) OF.fD) ([102,111,114]:Bytes)).bind λ r3 =>
 ck (inR (r3.2.fIn - 1)) <|
 if r3.1=true then
  ((d7 n) (ai.mk r3.2.fL r3.2.fI (r3.2.fIn - 1) r3.2.fD) t_1 ([93]:Bytes)).bind λ r7 =>
  some (r7.1,r7.2)
 else
  ((eQ n) (ai.mk r3.2.fL r3.2.fI (r3.2.fIn - 1) r3.2.fD) ([93]:Bytes)).bind λ r9 =>
  some ((ad.mk 10 0 ([]:Bytes) ([]:Bytes) (am.mk 0 0 ([]:Bytes) [] []) r9.1 t_1.fAt),r9.2)
def gP:Nat->ai->ac->Option (ad×ai)
 | 0,_,_=>none
 | n+1,OF,t_1 =>
 ck (inR (OF.fI+1)) <|
 ck (inR (OF.fIn+1)) <|
 (cS n (ai.mk OF.fL (OF.fI+1) (OF.fIn+1) OF.fD) ([102,111,114]:Bytes)).bind λ r3 =>
 if r3.1=true then
  ck (inR (r3.2.fIn - 1)) <|
  ((d7 n) (ai.mk r3.2.fL r3.2.fI (r3.2.fIn - 1) r3.2.fD) t_1 ([125]:Bytes)).bind λ r7 =>
  some (r7.1,r7.2)
 else
  (bn n (cb n) (bc n) n [] r3.2.fL r3.2.fI r3.2.fIn r3.2.fD.Ar r3.2.fD.fAt r3.2.fD.AI).bind λ V5 =>
  ck (inR (V5.2.2.2.1 - 1)) <|
  (
    (au (ai.mk V5.2.1 V5.2.2.1 (V5.2.2.2.1 - 1) (ao.mk V5.2.2.2.2.1 V5.2.2.2.2.2.1 V5.2.2.2.2.2.2))).bind λ UD =>
    if (!UD.1)=true then
     ck (inR (UD.2.fI+1)) <|
     some (UD.2.fL,UD.2.fI+1,UD.2.fIn,UD.2.fD.Ar,UD.2.fD.fAt,UD.2.fD.AI)
    else
     some (UD.2.fL,UD.2.fI,UD.2.fIn,UD.2.fD.Ar,UD.2.fD.fAt,UD.2.fD.AI)
   ).bind λ WY =>
  some ((ad.mk 11 0 ([]:Bytes) ([]:Bytes) (am.mk 0 0 ([]:Bytes) [] []) V5.1 t_1.fAt),(ai.mk WY.1 WY.2.1 WY.2.2.1 (ao.mk WY.2.2.2.1 WY.2.2.2.2.1 WY.2.2.2.2.2)))
def eQ:Nat->ai->Bytes->Option ((List ad)×ai)
 | 0,_,_=>none
 | n+1,OF,end_1 =>
 ck (inR (OF.fIn+1)) <|
 (bu n (aK n) end_1 n [] OF.fL OF.fI (OF.fIn+1) OF.fD.Ar OF.fD.fAt OF.fD.AI).bind λ V7 =>
 ck (inR (V7.2.2.2.1 - 1)) <|
 (
   (au (ai.mk V7.2.1 V7.2.2.1 (V7.2.2.2.1 - 1) (ao.mk V7.2.2.2.2.1 V7.2.2.2.2.2.1 V7.2.2.2.2.2.2))).bind λ UE =>
   if (!UE.1)=true then
    ck (inR (UE.2.fI+1)) <|
    some (UE.2.fL,UE.2.fI+1,UE.2.fIn,UE.2.fD.Ar,UE.2.fD.fAt,UE.2.fD.AI)
   else
    some (UE.2.fL,UE.2.fI,UE.2.fIn,UE.2.fD.Ar,UE.2.fD.fAt,UE.2.fD.AI)
  ).bind λ W2 =>
 some (V7.1,(ai.mk W2.1 W2.2.1 W2.2.2.1 (ao.mk W2.2.2.2.1 W2.2.2.2.2.1 W2.2.2.2.2.2)))
def d7:Nat->ai->ac->Bytes->Option (ad×ai)
 | 0,_,_,_=>none
 | n+1,OF,t_1,end_2 =>
 (
   if end_2=([125]:Bytes) then
    some 13
   else
    some 12
  ).bind λ f2 =>
 ck (inR (OF.fIn+1)) <|
 (bG n (ai.mk OF.fL OF.fI (OF.fIn+1) OF.fD)).bind λ r4 =>
 ck (inR (r4.2.fI+1)) <|
 (co n (ai.mk r4.2.fL (r4.2.fI+1) r4.2.fIn r4.2.fD)).bind λ r7 =>
 (
   (
     (au r7.2).bind λ r9 =>
     if (!r9.1)=true then
      (aX n r9.2 ([44]:Bytes)).bind λ Tt =>
      some (Tt.1,Tt.2.fL,Tt.2.fI,Tt.2.fIn,Tt.2.fD.Ar,Tt.2.fD.fAt,Tt.2.fD.AI)
     else
      some (false,r9.2.fL,r9.2.fI,r9.2.fIn,r9.2.fD.Ar,r9.2.fD.fAt,r9.2.fD.AI)
    ).bind λ UH =>
   if UH.1=true then
    ck (inR (UH.2.2.1+1)) <|
    (co n (ai.mk UH.2.1 (UH.2.2.1+1) UH.2.2.2.1 (ao.mk UH.2.2.2.2.1 UH.2.2.2.2.2.1 UH.2.2.2.2.2.2))).bind λ Tp =>
    some (Tp.1,r7.1,Tp.2.fL,Tp.2.fI,Tp.2.fIn,Tp.2.fD.Ar,Tp.2.fD.fAt,Tp.2.fD.AI)
   else
    some (r7.1,([]:Bytes),UH.2.1,UH.2.2.1,UH.2.2.2.1,UH.2.2.2.2.1,UH.2.2.2.2.2.1,UH.2.2.2.2.2.2)
  ).bind λ V6 =>
 (
   (
     (au (ai.mk V6.2.2.1 V6.2.2.2.1 V6.2.2.2.2.1 (ao.mk V6.2.2.2.2.2.1 V6.2.2.2.2.2.2.1 V6.2.2.2.2.2.2.2))).bind λ Vo =>
     if (!Vo.1)=true then
      (cS n Vo.2 ([105,110]:Bytes)).bind λ Xr =>
      some (!Xr.1,Xr.2.fL,Xr.2.fI,Xr.2.fIn,Xr.2.fD.Ar,Xr.2.fD.fAt,Xr.2.fD.AI)
     else
      some (false,Vo.2.fL,Vo.2.fI,Vo.2.fIn,Vo.2.fD.Ar,Vo.2.fD.fAt,Vo.2.fD.AI)
    ).bind λ UX =>
   if UX.1=true then
    (bT n (ai.mk UX.2.1 UX.2.2.1 UX.2.2.2.1 (ao.mk UX.2.2.2.2.1 UX.2.2.2.2.2.1 UX.2.2.2.2.2.2))).bind λ V0 =>
    some (V0.fL,V0.fI,V0.fIn,V0.fD.Ar,V0.fD.fAt,V0.fD.AI)
   else
    some (UX.2.1,UX.2.2.1,UX.2.2.2.1,UX.2.2.2.2.1,UX.2.2.2.2.2.1,UX.2.2.2.2.2.2)
  ).bind λ Ws =>
 ck (inR (Ws.2.1+1)) <|
 ((bc n) (ai.mk Ws.1 (Ws.2.1+1) Ws.2.2.1 (ao.mk Ws.2.2.2.1 Ws.2.2.2.2.1 Ws.2.2.2.2.2))).bind λ TB =>
 ck ([TB.1].length*160<=140737488355328) <|
 (
   (au TB.2).bind λ TV =>
   if (!TV.1)=true then
    (bQ n TV.2 ([58]:Bytes)).bind λ TO =>
    some (TO.fL,TO.fI,TO.fIn,TO.fD.Ar,TO.fD.fAt,TO.fD.AI)
   else
    some (TV.2.fL,TV.2.fI,TV.2.fIn,TV.2.fD.Ar,TV.2.fD.fAt,TV.2.fD.AI)
  ).bind λ W1 =>
 ((bc n) (ai.mk W1.1 W1.2.1 W1.2.2.1 (ao.mk W1.2.2.2.1 W1.2.2.2.2.1 W1.2.2.2.2.2))).bind λ TW =>
 ck (([TB.1].length+[TW.1].length)*160<=140737488355328) <|
 (
   if end_2=([125]:Bytes) then
    (
      (au TW.2).bind λ Uu =>
      if (!Uu.1)=true then
       (bQ n Uu.2 ([61,62]:Bytes)).bind λ VE =>
       some (VE.fL,VE.fI,VE.fIn,VE.fD.Ar,VE.fD.fAt,VE.fD.AI)
      else
       some (Uu.2.fL,Uu.2.fI,Uu.2.fIn,Uu.2.fD.Ar,Uu.2.fD.fAt,Uu.2.fD.AI)
     ).bind λ W0 =>
    ((bc n) (ai.mk W0.1 W0.2.1 W0.2.2.1 (ao.mk W0.2.2.2.1 W0.2.2.2.2.1 W0.2.2.2.2.2))).bind λ VT =>
    ck ((([TB.1]++[TW.1]).length+[VT.1].length)*160<=140737488355328) <|
    some (([TB.1]++[TW.1])++[VT.1],VT.2.fL,VT.2.fI,VT.2.fIn,VT.2.fD.Ar,VT.2.fD.fAt,VT.2.fD.AI)
   else
    some ([TB.1]++[TW.1],TW.2.fL,TW.2.fI,TW.2.fIn,TW.2.fD.Ar,TW.2.fD.fAt,TW.2.fD.AI)
  ).bind λ VM =>
 (
   (
     (au (ai.mk VM.2.1 VM.2.2.1 VM.2.2.2.1 (ao.mk VM.2.2.2.2.1 VM.2.2.2.2.2.1 VM.2.2.2.2.2.2))).bind λ Vn =>
     if (!Vn.1)=true then
      (cS n Vn.2 ([105,102]:Bytes)).bind λ YX =>
      some (YX.1,YX.2.fL,YX.2.fI,YX.2.fIn,YX.2.fD.Ar,YX.2.fD.fAt,YX.2.fD.AI)
     else
      some (false,Vn.2.fL,Vn.2.fI,Vn.2.fIn,Vn.2.fD.Ar,Vn.2.fD.fAt,Vn.2.fD.AI)
    ).bind λ UG =>
   if UG.1=true then
    ck (inR (UG.2.2.1+1)) <|
    ((bc n) (ai.mk UG.2.1 (UG.2.2.1+1) UG.2.2.2.1 (ao.mk UG.2.2.2.2.1 UG.2.2.2.2.2.1 UG.2.2.2.2.2.2))).bind λ TL =>
    ck ((VM.1.length+[TL.1].length)*160<=140737488355328) <|
    some (VM.1++[TL.1],TL.2.fL,TL.2.fI,TL.2.fIn,TL.2.fD.Ar,TL.2.fD.fAt,TL.2.fD.AI)
   else
    some (VM.1,UG.2.1,UG.2.2.1,UG.2.2.2.1,UG.2.2.2.2.1,UG.2.2.2.2.2.1,UG.2.2.2.2.2.2)
  ).bind λ Wr =>
 (
   (au (ai.mk Wr.2.1 Wr.2.2.1 Wr.2.2.2.1 (ao.mk Wr.2.2.2.2.1 Wr.2.2.2.2.2.1 Wr.2.2.2.2.2.2))).bind λ Uq =>
   if (!Uq.1)=true then
    (bQ n Uq.2 end_2).bind λ WX =>
    some (WX.fL,WX.fI,WX.fIn,WX.fD.Ar,WX.fD.fAt,WX.fD.AI)
   else
    some (Uq.2.fL,Uq.2.fI,Uq.2.fIn,Uq.2.fD.Ar,Uq.2.fD.fAt,Uq.2.fD.AI)
  ).bind λ Wq =>
 ck (inR (Wq.2.2.1 - 1)) <|
 some ((ad.mk f2 0 V6.1 V6.2.1 (am.mk 0 0 ([]:Bytes) [] []) Wr.1 t_1.fAt),(ai.mk Wq.1 Wq.2.1 (Wq.2.2.1 - 1) (ao.mk Wq.2.2.2.1 Wq.2.2.2.2.1 Wq.2.2.2.2.2)))
def cb:Nat->ai->Option (ad×ai)
 | 0,_=>none
 | n+1,OF =>
 (bG n OF).bind λ r1 =>
 if r1.1.Ar=1 then
  ck (inR (r1.2.fI+1)) <|
  (fU (am.mk 3 0 r1.1.B' [] []) r1.1.fAt).bind λ r5 =>
  some (r5,(ai.mk r1.2.fL (r1.2.fI+1) r1.2.fIn r1.2.fD))
 else
  (
    if r1.1.Ar=3 then
     some (true,r1.2.fL,r1.2.fI,r1.2.fIn,r1.2.fD.Ar,r1.2.fD.fAt,r1.2.fD.AI)
    else
     (aX n r1.2 ([40]:Bytes)).bind λ r8 =>
     some (r8.1,r8.2.fL,r8.2.fI,r8.2.fIn,r8.2.fD.Ar,r8.2.fD.fAt,r8.2.fD.AI)
   ).bind λ TD =>
  if TD.1=true then
   ((bB n) (ai.mk TD.2.1 TD.2.2.1 TD.2.2.2.1 (ao.mk TD.2.2.2.2.1 TD.2.2.2.2.2.1 TD.2.2.2.2.2.2))).bind λ Ub =>
   some (Ub.1,Ub.2)
  else
   (bT n (ai.mk TD.2.1 TD.2.2.1 TD.2.2.2.1 (ao.mk TD.2.2.2.2.1 TD.2.2.2.2.2.1 TD.2.2.2.2.2.2))).bind λ T5 =>
   some ((ad.mk 0 0 ([]:Bytes) ([]:Bytes) (am.mk 0 0 ([]:Bytes) [] []) [] 0),T5)
def bc:Nat->ai->Option (ad×ai)
 | 0,_=>none
 | n+1,OF =>
 (au OF).bind λ r1 =>
 if r1.1=true then
  some ((ad.mk 0 0 ([]:Bytes) ([]:Bytes) (am.mk 0 0 ([]:Bytes) [] []) [] 0),r1.2)
 else
  ((aK n) r1.2).bind λ r4 =>
  some (r4.1,r4.2)
end
theorem qp (n:Nat):ux (gT n) 20/\ux (db n) 35/\(∀ (Mr:Bytes) (N':Int) (r:(List ad)×Bool×ao),HP (lq n Mr N'=some r) Tryz.prog 41 [eS Mr,eI N'] (.tuple [.p (eL ak r.1),.p (eB r.2.1),.p (.agg (ao.cs r.2.2))]))/\nM (aK n) 67/\(∀ (OF:ai) (O':Int) (r:ad×ai),HO (bA n OF O'=some r) Tryz.prog 107 [.ptr 1000000 0,.p (eI O')] [(1000000,((ai.cs OF).map .p))] (.p (.agg (ad.cs r.1))) ([(1000000,((ai.cs r.2).map .p))]))/\nM (dJ n) 143/\nM (fk n) 167/\nM (bB n) 187/\uG (fw n) 201/\uG (iE n) 202/\uG (gP n) 203/\(∀ (OF:ai) (end_1:Bytes) (r:(List ad)×ai),HO (eQ n OF end_1=some r) Tryz.prog 215 [.ptr 1000000 0,.p (eS end_1)] [(1000000,((ai.cs OF).map .p))] (.p (eL ak r.1)) ([(1000000,((ai.cs r.2).map .p))]))/\(∀ (OF:ai) (t_1:ac) (end_2:Bytes) (r:ad×ai),HO (d7 n OF t_1 end_2=some r) Tryz.prog 217 [.ptr 1000000 0,.p (.agg (ac.cs t_1)),.p (eS end_2)] [(1000000,((ai.cs OF).map .p))] (.p (.agg (ad.cs r.1))) ([(1000000,((ai.cs r.2).map .p))]))/\nM (cb n) 218/\nM (bc n) 219:=by
 induction n with
 | zero=>exact Zr
 | succ n ih =>
 obtain ⟨_,_,_,_,_,_,_,_,_,_,_,_,_,_,_⟩:=ih;refine ⟨?_,?_,?_,?_,?_,?_,?_,?_,?_,?_,?_,?_,?_,?_,?_⟩
 ·refine λ Mr N'=>hP good Tryz.func20 Z Z λ r h0 _ w0=>?_;rw [gT] at h0;refine nx 9 Z (bd h0 λ r1 e2 h0=>?_);refine oK (HP.c e2) Z ⟨sr,sr,trivial⟩ Tryz.call41 Z (nx 25 Z ?_);refine bd h0 λ o22 h1 h0=>kN o22 (λ v23=>⟨[(4,.ptr 4 0),(5,.ptr 5 0),(9,.ptr 20 0),(10,.ptr 10 0)],[(4,aE),(5,iS),(10,(Jz v23)),(20,[.p (.val (.slice none 0 0)),.p (eI 0),.p (eI 0),.p (eI r1.2.2.Ar),.p (eI r1.2.2.fAt),.p (eS r1.2.2.AI)])]⟩) ?_ ?_
  ·refine nx 5 Z (bd h0 λ Va e20 h0=>?_);refine mO Z (aW [20] [] 101000 101000 (HO.c e20) Z Z Z Z Z ⟨sr,sr,trivial⟩ Z Z ⟨⟨_,Z,⟨iy _,sr,sr,sr,sr,sr,trivial⟩⟩,trivial⟩ Z Z Z Z Z Z Z Z Tryz.call36 Z Z ?_);exact J0
  exact ay
 ·refine λ Mr N'=>hP good Tryz.func35 Z Z λ r h0 _ w0=>?_;rw [db] at h0;refine nx 8 Z (bd h0 λ r1 e2 h0=>?_);refine oK (HP.c e2) Z ⟨sr,trivial⟩ Tryz.call27 Z (nx 14 Z ?_);refine fN [19] h0 Z (λ c3 h0=>?_) λ c3 h0=>?_
  ·refine nx 12 Z (bd h0 λ X3 h1 h0=>?_);refine kE 0 X3 (λ v53=>⟨[(4,.ptr 4 0),(5,.ptr 5 0),(8,.vec 54 3 0 (v53.map aF))],[(4,aE),(5,iS)]⟩) ?_ ?_
   ·have:=js [1101,1100];have:=jO 1101 (List ac×Int×Int×Int×Int×Bytes) λ v=>[(57,(a6 v))]
    have:=jB 1100 (Bool×List ac×Int×Int×Int×Int×Bytes) (λ v=>[(68,.p (eB v.1))]) λ v=>[(57,(a6 v.2))]
    exact J0
   refine lG (λ (Vf:(List ac)×Int)=>⟨[(1,.p (eI N')),(4,.ptr 4 0),(5,.ptr 5 0),(6,.p (eL aF r1.1)),(8,.vec 54 3 0 (Vf.1.map aF)),(9,.p (eI Vf.2))],[(4,aE),(5,iS)]⟩) (λ m (Vf:(List ac)×Int)=>eg N' r1 m Vf.1 Vf.2) Y ([],0) h1 (dN (kU ⟨er rfl,er rfl,er rfl,er rfl,⟨_,rfl,AV.sub_nilvec _ _ _⟩,er rfl,trivial⟩ ⟨⟨_,rfl,⟨sr,sr,sr,sr,sr,sr,sr,sr,sr,sr,sr,trivial⟩⟩,⟨_,rfl,⟨sr,sr,sr,trivial⟩⟩,trivial⟩)) ?_;rintro m ⟨Tl,i15⟩ h1;replace h1:eg N' r1 (m+1) Tl i15=some X3:=h1;rw [eg] at h1;refine nx 5 rfl (oLl (f:=aF) rfl rfl ?_);refine nx 2 rfl (fD [31] h1 rfl (λ ZF h1=>?_) λ ZF h1=>?_)
   ·refine nx 4 Z (cc' h1 λ V8 h1=>?_);refine cc' h1 λ Ut h1=>cc' h1 λ U3 h1=>cc' h1 λ VD h1=>cc' h1 λ U2 h1=>mG (gE (t:=⟨[(1,.p (eI N')),(4,.ptr 4 0),(5,.ptr 5 0),(6,.p (eL aF r1.1)),(8,.vec 54 3 0 (Tl.map aF)),(9,.p (eI i15))],[(4,aE),(5,iS)]⟩) Z Z) (mSq ⟨2,[20,21],(by3 (.some λ i=>Nat.beq i 54||Nat.beq i 54) .none .none),(by3 [(1,.p (eI N')),(4,.ptr 4 0),(5,.ptr 5 0),(6,.p (eL aF r1.1)),(8,.vec 54 3 0 (Tl.map aF)),(9,.p (eI i15))] [(1,.p (eI N')),(4,.ptr 4 0),(5,.ptr 5 0),(6,.p (eL aF r1.1)),(8,.p (eL aF Tl)),(9,.p (eI i15))] [(1,.p (eI N')),(4,.ptr 4 0),(5,.ptr 5 0),(6,.p (eL aF r1.1)),(9,.p (eI i15))]),(λ _=>[(4,aE),(5,iS)])⟩ Z ?_);refine dP (by3 (.vec 54 3 0 (Tl.map aF)) (.p (eL aF Tl)) (.p (eL aF Tl))) Z (dPc (.p (eL aF r1.1)) Z ?_);refine dPc (.p (eI i15)) Z (dO (.rptr (ac.cs (lat r1.1 i15))) [35,36] Z (λ _ sl Sk K hK=>ap Z (j5 (f:=aF) (l:=r1.1) ac.cs Z Z Z Z Z Z (Sk _ _ Z) Z (Sk _ _ Z) V8 ac.It Y hK)) ?_);refine dPc (.rptr (List.drop 0 (ac.cs (lat r1.1 i15)))) Z (dPc (.p (eI ((lat r1.1 i15).Ar))) Z ?_);refine dPc (.p (eL aF r1.1)) Z (dPc (.p (eI i15)) Z ?_);refine dO (.rptr (ac.cs (lat r1.1 i15))) [40,41] Z (λ _ sl Sk K hK=>ap Z (j5 (f:=aF) (l:=r1.1) ac.cs Z Z Z Z Z Z (Sk _ _ Z) Z (Sk _ _ Z) Ut ac.It Y hK)) (dPc (.rptr (List.drop 1 (ac.cs (lat r1.1 i15)))) Z ?_);refine dPc (.p (eS ((lat r1.1 i15).B'))) Z (dPc (.p (eL aF r1.1)) Z ?_);refine dPc (.p (eI i15)) Z (dO (.rptr (ac.cs (lat r1.1 i15))) [45,46] Z (λ _ sl Sk K hK=>ap Z (j5 (f:=aF) (l:=r1.1) ac.cs Z Z Z Z Z Z (Sk _ _ Z) Z (Sk _ _ Z) U3 ac.It Y hK)) ?_);refine dPc (.rptr (List.drop 2 (ac.cs (lat r1.1 i15)))) Z (dPc (.p (eI ((lat r1.1 i15).fAt))) Z ?_);refine dPc (.p (eI N')) Z (dO (.p (eI (((lat r1.1 i15).fAt)+N'))) [49,50] Z (λ _ sl Sk K hK=>ap Z (fY Z Z Z (Sk _ _ Z) (Sk _ _ Z) Z VD hK)) ?_);refine dPc (.p (.agg [eI ((lat r1.1 i15).Ar),eS ((lat r1.1 i15).B'),eI (((lat r1.1 i15).fAt)+N')])) Z (dO (.p (eL aF [(ac.mk ((lat r1.1 i15).Ar) ((lat r1.1 i15).B') (((lat r1.1 i15).fAt)+N'))])) [52] Z (λ _ sl Sk K hK=>ap Z (aH aF [(ac.mk ((lat r1.1 i15).Ar) ((lat r1.1 i15).B') (((lat r1.1 i15).fAt)+N'))] Z Z Z Z Z Z (cO (Sk _ _ Z) Z dW) Z Z Z Z Z Z uy hK)) ?_);refine Cs (λ _=>.vec 54 3 0 ((Tl++[(ac.mk ((lat r1.1 i15).Ar) ((lat r1.1 i15).B') (((lat r1.1 i15).fAt)+N'))]).map aF)) [(34,_),(53,_)] Z ⟨.inr ⟨0,_,Z,Z,Z⟩,.inr ⟨19,_,Z,Z,Z⟩,trivial⟩ Z Z (G6 Z Y) (lt2 (λ h=>absurd h (by decide)) Y) (λ sl Sk K hK=>ap Z (dZ aF Tl [(ac.mk ((lat r1.1 i15).Ar) ((lat r1.1 i15).B') (((lat r1.1 i15).fAt)+N'))] Z Z Z Z Z Z Z Z (Sk _ _ Z) Z Z (Sk _ _ Z) Z (λ x=>congrArg List.length (ac.It x)) Z Z Z Z U2 hK)) (Cs (λ _=>.vec 54 3 0 ((Tl++[(ac.mk ((lat r1.1 i15).Ar) ((lat r1.1 i15).B') (((lat r1.1 i15).fAt)+N'))]).map aF)) [(54,_)] Z ⟨.inr ⟨20,_,Z,Z,Z⟩,trivial⟩ Z Z Y (lt2 (λ h=>absurd h (by decide)) (λ h=>absurd h (by decide))) (λ sl Sk K hK=>ap Z (rA Z Z Z (Sk _ _ Z) hK)) ?_);exact ay
   exact ay
  refine nx 2 Z (cc' h0 λ W5 h0=>?_);refine mG (gE (t:=⟨[(1,.p (eI N')),(4,.ptr 4 0),(5,.ptr 5 0),(7,.ptr 7 0)],[(4,aE),(5,iS),(7,(ao.cs r1.2).map .p)]⟩) Z Z) (mSq ⟨2,[8,9],(λ _=>.none),(λ _=>[(1,.p (eI N')),(4,.ptr 4 0),(5,.ptr 5 0),(7,.ptr 7 0)]),(ob3 ([(4,aE),(5,iS),(7,((ao.cs r1.2).map .p))]) (4,aE) (5,[.p (eI r1.2.Ar),.p (eI (r1.2.fAt+N')),.p (eS ([]:Bytes))]))⟩ Z ?_);refine dPc (.p (.agg Gt)) Z (dPc (.ptr 7 0) Z ?_);refine dPc (.p (eI r1.2.Ar)) Z (dPc (.ptr 7 1) Z ?_);refine dPc (.p (eI r1.2.fAt)) Z (dPc (.p (eI N')) Z ?_);refine dO (.p (eI (r1.2.fAt+N'))) [24,25] Z (λ _ sl Sk K hK=>ap Z (fY Z Z Z (Sk _ _ Z) (Sk _ _ Z) Z W5 hK)) (dPc (.p (.agg [eI r1.2.Ar,eI (r1.2.fAt+N'),eS ([]:Bytes)])) Z ?_);exact J0
 ·refine λ Mr N'=>hP good Tryz.func41 Z Z λ r h0 _ w0=>?_;rw [lq] at h0;refine nx 20 rfl ?_;obtain ⟨YH,h1,Tz,hR0⟩:=br h0;refine kEx 0 (λ Wj:(List ad)×Bool=>YH=.inl Wj) (λ Wj=>⟨[(6,.ptr 6 0),(7,.vec 85 11 0 (Wj.1.map ak)),(8,.p (eB Wj.2))],[(6,iS)]⟩) (λ Wj hv=>?_) ?_
  ·exact fP
  refine lG (λ (Vr:(List ad)×Bool×Int)=>⟨[(0,.p (eS Mr)),(1,.p (eI N')),(6,.ptr 6 0),(7,.vec 85 11 0 (Vr.1.map ak)),(8,.p (eB Vr.2.1)),(9,.p (eI Vr.2.2))],[(6,iS)]⟩) (λ m (Vr:(List ad)×Bool×Int)=>cB n (db n) Mr N' m Vr.1 Vr.2.1 Vr.2.2) Y ([],false,0) h1 (dN (kU ⟨er rfl,er rfl,er rfl,⟨_,rfl,AV.sub_nilvec _ _ _⟩,er rfl,er rfl,trivial⟩ ⟨⟨_,rfl,⟨sr,sr,sr,trivial⟩⟩,trivial⟩)) ?_;rintro m ⟨Up,open36,i37⟩ h1;replace h1:cB n (db n) Mr N' (m+1) Up open36 i37=some YH:=h1;rw [cB] at h1;refine nx 5 rfl (oLs rfl ?_);refine nx 2 rfl (fD [19] h1 rfl (λ c38 h1=>?_) λ c38 h1=>?_)
  ·refine nx 2 rfl ?_;obtain ⟨o79,h2,hL1,hR1⟩:=br h1;refine kX (λ v80:(List ad)×Bool×Int=>o79=.inl v80) (λ v80=>⟨[(0,.p (eS Mr)),(1,.p (eI N')),(6,.ptr 6 0),(7,.vec 85 11 0 (v80.1.map ak)),(8,.p (eB v80.2.1)),(9,.p (eI v80.2.2))],[(6,iS)]⟩) (λ v80 hv=>?_) ?_
   ·have h1:=hL1 _ hv;exact ay
   refine nx 6 Z (K2 λ Wa h2=>nx 1 Z ?_);refine fB [22] h2 Z (λ c41 h2=>?_) λ c41 h2=>?_
   ·refine nx 5 Z (oA h2 Z Z λ Yr h2=>?_);refine bd h2 λ UR e44 h2=>oK (HP.c e44) Z ⟨sr,sr,trivial⟩ Tryz.call80 Z (nx 8 Z ?_);refine fD [28] h2 Z (λ c45 h2=>?_) λ c45 h2=>?_
    ·exact bV
    refine nx 6 Z (oA h2 Z Z λ Yq h2=>?_);refine nx 1 Z (oP h2 Z Z Z λ Yp h2=>?_);refine nx 2 Z (oA h2 Z Z λ Zj h2=>?_);refine oA h2 Z Z λ XD h2=>bd h2 λ TP Zx h2=>oK (HP.c Zx) Z ⟨sr,sr,trivial⟩ Tryz.call35 Z (nx 8 Z ?_);refine mG (gE (t:=⟨[(0,.p (eS Mr)),(1,.p (eI N')),(6,.ptr 6 0),(7,.vec 85 11 0 (Up.map ak)),(10,.p (eI UR)),(11,.ptr 11 0),(12,.ptr 12 0)],[(6,iS),(11,(ad.cs TP.1).map .p),(12,(ao.cs TP.2).map .p)]⟩) Z Z) (nx 7 Z ?_);refine fN [48] h2 Z (λ c53 h2=>?_) λ c53 h2=>?_
    ·refine nx 6 Z (mO Z (aH ak [TP.1] Z Z Z Z Z Z Z Z Z Z Z Z Z ff ?_));refine cc' h2 λ W4 h2=>mO Z (dZ ak Up [TP.1] Z Z Z Z Z Z Z Z Z Z Z Z Z (λ x=>congrArg List.length (ad.It x)) Z Z Z Z W4 ?_);refine nx 9 Z (oA h2 Z Z λ Yn h2=>?_);exact nx 3 Z (eX _ (oi h2).symm (bj (ca 53 85 Z Z Z Z Z) (gE Z Z)))
    exact bV
   refine nx 6 Z (K2 λ Uv h2=>nx 14 Z ?_);refine fN [64] h2 Z (λ c58 h2=>?_) λ c58 h2=>?_
   ·refine nx 6 Z (oLs Z ?_);refine nx 2 Z (fD [72] h2 Z (λ c60 h2=>?_) λ c60 h2=>?_)
    ·exact bV
    refine nx 9 Z (oA h2 Z Z λ Zh h2=>?_);refine bd h2 λ U9 e64 h2=>oK (HP.c e64) Z ⟨n0 ⟨.inl Z,.inl Z,.inl Z,.inr ⟨Z,Z⟩,.inr ⟨Z,Z⟩,trivial⟩,sr,trivial⟩ Tryz.call42 Z (mO Z (aH ak [U9] Z Z Z Z Z Z Z Z Z Z Z Z Z ff ?_));refine cc' h2 λ XB h2=>mO Z (dZ ak Up [U9] Z Z Z Z Z Z Z Z Z Z Z Z Z (λ x=>congrArg List.length (ad.It x)) Z Z Z Z XB ?_);exact bV
   exact bV
  exact ay
 ·refine λ OF=>hO good [] [1000000] Tryz.func67 Z Z λ r h0 _ w0 F=>?_;rw [aK] at h0;refine nx 7 Z (bd h0 λ r1 e2 h0=>?_);refine mO Z (cVq [1000000] [] 101000 101000 (HO.c e2) Tryz.call107 Z ?_);refine nx 5 Z (bd h0 λ X4 h1 h0=>?_);refine kN X4 (λ WO=>⟨[(0,.ptr 1000000 0),(2,.ptr 2 0),(3,.ptr 3 0),(14,.p (eB WO.1))],[(2,aE),(3,(ad.cs r1.1).map .p),(1000000,(a6 WO.2))]⟩) ?_ ?_
  ·refine nx 1 Z (fB [14] h0 Z (λ XU h0=>?_) λ XU h0=>?_)
   ·exact J0
   refine nx 8 Z (oA h0 Z Z λ UL h0=>?_);refine nx 7 Z (K0 λ VJ h0=>?_);refine nx 7 Z (K0 λ Va h0=>?_);refine nx 1 Z (fB [26] h0 Z (λ c21 h0=>?_) λ c21 h0=>?_)
   ·exact J0
   refine nx 5 Z (K0 λ U' h0=>?_);refine nx 5 Z (K0 λ Vq h0=>?_);refine nx 1 Z (fB [31] h0 Z (λ Yx h0=>?_) λ Yx h0=>?_)
   ·exact J0
   refine nx 5 Z (bd h0 λ Ua e28 h0=>?_);refine mO Z (cVq [1000000] [] 108000 108000 (HO.c e28) Tryz.call67 Z ?_);refine nx 8 Z (mO Z (aH ak [r1.1,VJ.1,Ua.1] Z Z Z Z Z Z Z Z Z Z Z Z Z ff ?_));exact J0
  exact ay
 ·refine λ OF O'=>hO good [] [1000000] Tryz.func107 Z Z λ r h0 _ w0 F=>?_;rw [bA] at h0;refine nx 10 Z (fD [9] h0 Z (λ c1 h0=>?_) λ c1 h0=>?_)
  ·exact J0
  refine nx 6 Z (oA h0 Z Z λ W5 h0=>?_);refine bd h0 λ r5 e6 h0=>mO Z (cVq [1000000] [] 102000 102000 (HO.c e6) Tryz.call107 Z ?_);refine nx 5 Z (bd h0 λ aad h1 h0=>?_);refine kE 0 aad (λ Vm=>⟨[(4,.ptr 4 0),(5,.ptr 5 0)],[(4,aE),(5,[.p (eI Vm.1),.p (eI Vm.2.1),.p (eS Vm.2.2.1),.p (eS Vm.2.2.2.1),.p (eI Vm.2.2.2.2.1),.p (eI Vm.2.2.2.2.2.1),.p (eS Vm.2.2.2.2.2.2.1),.p (eL cX Vm.2.2.2.2.2.2.2.1),.p (eL eS Vm.2.2.2.2.2.2.2.2.1),.p (eL ak Vm.2.2.2.2.2.2.2.2.2.1),.p (eI r5.1.fAt)]),(1000000,(a6 Vm.2.2.2.2.2.2.2.2.2.2))]⟩) ?_ ?_
  ·exact J0
  refine lG (λ (TF:Int×Int×Bytes×Bytes×Int×Int×Bytes×(List am)×(List Bytes)×(List ad)×(List ac)×Int×Int×Int×Int×Bytes)=>⟨[(0,.ptr 1000000 0),(1,.p (eI O')),(4,.ptr 4 0),(5,.ptr 5 0)],[(4,aE),(5,[.p (eI TF.1),.p (eI TF.2.1),.p (eS TF.2.2.1),.p (eS TF.2.2.2.1),.p (eI TF.2.2.2.2.1),.p (eI TF.2.2.2.2.2.1),.p (eS TF.2.2.2.2.2.2.1),.p (eL cX TF.2.2.2.2.2.2.2.1),.p (eL eS TF.2.2.2.2.2.2.2.2.1),.p (eL ak TF.2.2.2.2.2.2.2.2.2.1),.p (eI r5.1.fAt)]),(1000000,(a6 TF.2.2.2.2.2.2.2.2.2.2))]⟩) (λ m (TF:Int×Int×Bytes×Bytes×Int×Int×Bytes×(List am)×(List Bytes)×(List ad)×(List ac)×Int×Int×Int×Int×Bytes)=>bM n (bA n) O' r5 m TF.1 TF.2.1 TF.2.2.1 TF.2.2.2.1 TF.2.2.2.2.1 TF.2.2.2.2.2.1 TF.2.2.2.2.2.2.1 TF.2.2.2.2.2.2.2.1 TF.2.2.2.2.2.2.2.2.1 TF.2.2.2.2.2.2.2.2.2.1 TF.2.2.2.2.2.2.2.2.2.2.1 TF.2.2.2.2.2.2.2.2.2.2.2.1 TF.2.2.2.2.2.2.2.2.2.2.2.2.1 TF.2.2.2.2.2.2.2.2.2.2.2.2.2.1 TF.2.2.2.2.2.2.2.2.2.2.2.2.2.2.1 TF.2.2.2.2.2.2.2.2.2.2.2.2.2.2.2) Y (r5.1.Ar,r5.1.fOp,r5.1.AI,r5.1.Gw,r5.1.A'.Ar,r5.1.A'.E',r5.1.A'.If,r5.1.A'.Df,r5.1.A'.C',r5.1.By,r5.2.fL,r5.2.fI,r5.2.fIn,r5.2.fD.Ar,r5.2.fD.fAt,r5.2.fD.AI) h1 (gE rfl rfl) ?_;rintro m ⟨Vi,Vh,VG,VF,XO,XN,WM,WL,WK,Vu,VR,WJ,XM,XL,XK,XJ⟩ h1;replace h1:bM n (bA n) O' r5 (m+1) Vi Vh VG VF XO XN WM WL WK Vu VR WJ XM XL XK XJ=some aad:=h1;rw [bM] at h1;refine nx 2 rfl (bd h1 λ o114 h2 h1=>?_);refine kN o114 (λ Z3=>⟨[(0,.ptr 1000000 0),(1,.p (eI O')),(4,.ptr 4 0),(5,.ptr 5 0),(24,.p (eB Z3.1))],[(4,aE),(5,[.p (eI Vi),.p (eI Vh),.p (eS VG),.p (eS VF),.p (eI XO),.p (eI XN),.p (eS WM),.p (eL cX WL),.p (eL eS WK),.p (eL ak Vu),.p (eI r5.1.fAt)]),(1000000,(a6 Z3.2))]⟩) ?_ ?_
  ·refine nx 1 Z (fB [24] h1 Z (λ c70 h1=>?_) λ c70 h1=>?_)
   ·refine nx 7 Z (K1 λ Xo h1=>?_);refine nx 8 Z (oA h1 Z Z λ aaf h1=>?_);refine nx 8 Z (oA h1 Z Z λ aae h1=>?_);refine bd h1 λ U8 e76 h1=>mO Z (cVq [1000000] [] 110000 110000 (HO.c e76) Tryz.call107 Z ?_);refine nx 7 Z (mO Z (aH ak [(ad.mk Vi Vh VG VF (am.mk XO XN WM WL WK) Vu r5.1.fAt),U8.1] Z Z Z Z Z Z Z Z Z Z Z Z Z ff ?_));exact nx 5 Z (eX (7,Xo.1,([]:Bytes),([]:Bytes),0,0,([]:Bytes),[],[],[(ad.mk Vi Vh VG VF (am.mk XO XN WM WL WK) Vu r5.1.fAt),U8.1],U8.2.fL,U8.2.fI,U8.2.fIn,U8.2.fD.Ar,U8.2.fD.fAt,U8.2.fD.AI) h1 (dN (kU ⟨er Z,er Z,er Z,er Z,trivial⟩ ⟨⟨_,Z,⟨sr,sr,sr,sr,sr,sr,sr,sr,sr,sr,sr,trivial⟩⟩,⟨_,Z,⟨sr,sr,sr,sr,sr,sr,sr,iy _,iy _,sr,sr,trivial⟩⟩,⟨_,Z,⟨sr,sr,sr,sr,sr,sr,trivial⟩⟩,trivial⟩)))
   exact ay
  exact bV
 ·refine λ OF=>hO good [] [1000000] Tryz.func143 Z Z λ r h0 _ w0 F=>?_;rw [dJ] at h0;refine nx 7 Z (bd h0 λ r1 e2 h0=>?_);refine mO Z (cVq [1000000] [] 101000 101000 (HO.c e2) Tryz.call73 Z ?_);refine nx 8 Z (bd h0 λ Xz h1 h0=>?_);refine kN Xz (λ Xb=>⟨[(0,.ptr 1000000 0),(2,.ptr 2 0),(3,.ptr 3 0),(4,.p (eI Xb.1))],[(2,aE),(3,(ac.cs r1.1).map .p),(1000000,(a6 Xb.2))]⟩) ?_ ?_
  ·refine nx 2 Z (bd h0 λ Y8 h1 h0=>?_);refine kN Y8 (λ Yz=>⟨[(0,.ptr 1000000 0),(2,.ptr 2 0),(3,.ptr 3 0),(4,.p (eI Yz.1))],[(2,aE),(3,(ac.cs r1.1).map .p),(1000000,(a6 Yz.2))]⟩) ?_ ?_
   ·refine nx 7 Z (fD [13] h0 Z (λ VZ h0=>?_) λ VZ h0=>?_)
    ·exact J0
    refine nx 8 Z (oA h0 Z Z λ Wz h0=>?_);refine nx 7 Z (K0 λ Ua h0=>?_);refine nx 7 Z (mO Z (aH ak [Ua.1] Z Z Z Z Z Z Z Z Z Z Z Z Z ff ?_));exact J0
   exact ay
  exact ay
 ·refine λ OF=>hO good [] [1000000] Tryz.func167 Z Z λ r h0 _ w0 F=>?_;rw [fk] at h0;refine nx 7 rfl (K0 λ r1 h0=>?_);refine nx 5 rfl ?_;obtain ⟨aaa,h1,Tz,hR0⟩:=br h0;refine kEx 0 (λ Uy:Int×Int×Bytes×Bytes×Int×Int×Bytes×(List am)×(List Bytes)×(List ad)×(List ac)×Int×Int×Int×Int×Bytes=>aaa=.inl Uy) (λ Uy=>⟨[(2,.ptr 2 0),(3,.ptr 3 0)],[(2,aE),(3,[.p (eI Uy.1),.p (eI Uy.2.1),.p (eS Uy.2.2.1),.p (eS Uy.2.2.2.1),.p (eI Uy.2.2.2.2.1),.p (eI Uy.2.2.2.2.2.1),.p (eS Uy.2.2.2.2.2.2.1),.p (eL cX Uy.2.2.2.2.2.2.2.1),.p (eL eS Uy.2.2.2.2.2.2.2.2.1),.p (eL ak Uy.2.2.2.2.2.2.2.2.2.1),.p (eI r1.1.fAt)]),(1000000,(a6 Uy.2.2.2.2.2.2.2.2.2.2))]⟩) (λ Uy hv=>?_) ?_
  ·exact fP
  refine lG (λ (Tm:Int×Int×Bytes×Bytes×Int×Int×Bytes×(List am)×(List Bytes)×(List ad)×(List ac)×Int×Int×Int×Int×Bytes)=>⟨[(0,.ptr 1000000 0),(2,.ptr 2 0),(3,.ptr 3 0)],[(2,aE),(3,[.p (eI Tm.1),.p (eI Tm.2.1),.p (eS Tm.2.2.1),.p (eS Tm.2.2.2.1),.p (eI Tm.2.2.2.2.1),.p (eI Tm.2.2.2.2.2.1),.p (eS Tm.2.2.2.2.2.2.1),.p (eL cX Tm.2.2.2.2.2.2.2.1),.p (eL eS Tm.2.2.2.2.2.2.2.2.1),.p (eL ak Tm.2.2.2.2.2.2.2.2.2.1),.p (eI r1.1.fAt)]),(1000000,(a6 Tm.2.2.2.2.2.2.2.2.2.2))]⟩) (λ m (Tm:Int×Int×Bytes×Bytes×Int×Int×Bytes×(List am)×(List Bytes)×(List ad)×(List ac)×Int×Int×Int×Int×Bytes)=>ba n (aK n) r1 m Tm.1 Tm.2.1 Tm.2.2.1 Tm.2.2.2.1 Tm.2.2.2.2.1 Tm.2.2.2.2.2.1 Tm.2.2.2.2.2.2.1 Tm.2.2.2.2.2.2.2.1 Tm.2.2.2.2.2.2.2.2.1 Tm.2.2.2.2.2.2.2.2.2.1 Tm.2.2.2.2.2.2.2.2.2.2.1 Tm.2.2.2.2.2.2.2.2.2.2.2.1 Tm.2.2.2.2.2.2.2.2.2.2.2.2.1 Tm.2.2.2.2.2.2.2.2.2.2.2.2.2.1 Tm.2.2.2.2.2.2.2.2.2.2.2.2.2.2.1 Tm.2.2.2.2.2.2.2.2.2.2.2.2.2.2.2) Y (r1.1.Ar,r1.1.fOp,r1.1.AI,r1.1.Gw,r1.1.A'.Ar,r1.1.A'.E',r1.1.A'.If,r1.1.A'.Df,r1.1.A'.C',r1.1.By,r1.2.fL,r1.2.fI,r1.2.fIn,r1.2.fD.Ar,r1.2.fD.fAt,r1.2.fD.AI) h1 (gE rfl rfl) ?_;rintro m ⟨VQ,WI,WH,WG,WF,WE,WC,WB,TT,WA,Zu,Zt,Zs,Zq,Zp,f75⟩ h1;replace h1:ba n (aK n) r1 (m+1) VQ WI WH WG WF WE WC WB TT WA Zu Zt Zs Zq Zp f75=some aaa:=h1;rw [ba] at h1;refine nx 4 rfl (K1 λ VE h1=>?_);refine nx 2 rfl (fB [10] h1 rfl (λ c78 h1=>?_) λ c78 h1=>?_)
  ·refine nx 2 rfl ?_;obtain ⟨Us,h2,hL1,hR1⟩:=br h1;refine kX (λ TX:Int×Bytes×(List ad)×(List ac)×Int×Int×Int×Int×Bytes=>Us=.inl TX) (λ TX=>⟨[(0,.ptr 1000000 0),(2,.ptr 2 0),(3,.ptr 3 0)],[(2,aE),(3,[.p (eI TX.1),.p (eI 0),.p (eS TX.2.1),.p (eS ([]:Bytes)),.p (eI 0),.p (eI 0),.p (eS ([]:Bytes)),.p (.val (.slice none 0 0)),.p (.val (.slice none 0 0)),.p (eL ak TX.2.2.1),.p (eI r1.1.fAt)]),(1000000,(a6 TX.2.2.2))]⟩) (λ TX hv=>?_) ?_
   ·have h1:=hL1 _ hv;exact nx 1 Z (eX (TX.1,0,TX.2.1,([]:Bytes),0,0,([]:Bytes),[],[],TX.2.2.1,TX.2.2.2.1,TX.2.2.2.2.1,TX.2.2.2.2.2.1,TX.2.2.2.2.2.2.1,TX.2.2.2.2.2.2.2.1,TX.2.2.2.2.2.2.2.2) h1 (dN (kU ⟨er Z,er Z,er Z,trivial⟩ ⟨⟨_,Z,⟨sr,sr,sr,sr,sr,sr,sr,sr,sr,sr,sr,trivial⟩⟩,⟨_,Z,⟨sr,sr,sr,sr,sr,sr,sr,iy _,iy _,sr,sr,trivial⟩⟩,⟨_,Z,⟨sr,sr,sr,sr,sr,sr,trivial⟩⟩,trivial⟩)))
   refine nx 4 Z (K2 λ YB h2=>?_);refine nx 1 Z (fB [12] h2 Z (λ c81 h2=>?_) λ c81 h2=>?_)
   ·refine nx 7 Z (oA h2 Z Z λ hk82 h2=>?_);refine nx 7 Z (K2 λ Vx h2=>?_);refine nx 10 Z (fN [24] h2 Z (λ c85 h2=>?_) λ c85 h2=>?_)
    ·refine nx 8 Z (oA h2 Z Z λ hk88 h2=>?_);refine nx 8 Z (mO Z (aH ak [(ad.mk VQ WI WH WG (am.mk WF WE WC WB TT) WA r1.1.fAt)] Z Z Z Z Z Z Z Z Z Z Z Z Z ff ?_));exact bV
    refine nx 4 Z (K2 λ r86 h2=>?_);exact Ge
   refine nx 4 Z (K2 λ Yc h2=>?_);refine nx 1 Z (fB [43] h2 Z (λ c91 h2=>?_) λ c91 h2=>?_)
   ·refine nx 7 Z (oA h2 Z Z λ hk92 h2=>?_);refine nx 10 Z (oA h2 Z Z λ hk93 h2=>?_);refine nx 7 Z (bd h2 λ Vn e95 h2=>?_);refine mO Z (cVq [1000000] [] 115000 115000 (HO.c e95) Tryz.call67 Z ?_);refine nx 4 Z (bd h2 λ XA h3 h2=>?_);refine kN XA (λ YS=>⟨[(0,.ptr 1000000 0),(2,.ptr 2 0),(3,.ptr 3 0),(5,.ptr 5 0)],[(2,aE),(3,[.p (eI VQ),.p (eI WI),.p (eS WH),.p (eS WG),.p (eI WF),.p (eI WE),.p (eS WC),.p (eL cX WB),.p (eL eS TT),.p (eL ak WA),.p (eI r1.1.fAt)]),(5,(ad.cs Vn.1).map .p),(1000000,(a6 YS))]⟩) ?_ ?_
    ·refine nx 7 Z (oA h2 Z Z λ aar h2=>?_);refine nx 7 Z (mO Z (aH ak [(ad.mk VQ WI WH WG (am.mk WF WE WC WB TT) WA r1.1.fAt),Vn.1] Z Z Z Z Z Z Z Z Z Z Z Z Z ff ?_));exact bV
    refine nx 3 Z (bd h3 λ Xn e97 h3=>?_);refine mO Z (cVq [1000000] [] 116000 116000 (HO.c e97) Tryz.call72 Z ?_);refine nx 2 Z (mG (gE (t:=⟨[(0,.ptr 1000000 0),(2,.ptr 2 0),(3,.ptr 3 0),(5,.ptr 5 0),(62,.p (eB (!Xn.1)))],[(2,aE),(3,[.p (eI VQ),.p (eI WI),.p (eS WH),.p (eS WG),.p (eI WF),.p (eI WE),.p (eS WC),.p (eL cX WB),.p (eL eS TT),.p (eL ak WA),.p (eI r1.1.fAt)]),(5,(ad.cs Vn.1).map .p),(1000000,(ai.cs Xn.2).map .p)]⟩) Z Z) ?_);refine fB [62] h3 Z (λ c98 h3=>?_) λ c98 h3=>?_
    ·refine nx 3 Z (bd h3 λ YW e100 h3=>?_);refine mO Z (cVq [1000000] [] 117000 117000 (HO.c e100) Tryz.call109 Z ?_);exact nx 1 Z lA
    exact mi
   exact Ge
  exact ay
 ·refine λ OF=>hO good [] [1000000] Tryz.func187 Z Z λ r h0 _ w0 F=>?_;rw [bB] at h0;have:=js [501,1101,2201];have:=jO 501 (List ac×Int×Int×Int×Int×Bytes) λ v=>[(1000000,(a6 v))]
  have:=jO 1101 (List ac×Int×Int×Int×Int×Bytes) λ v=>[(1000000,(a6 v))]
  have:=jO 2201 (List ac×Int×Int×Int×Int×Bytes) λ v=>[(1000000,(a6 v))]
  exact J0
 ·refine λ OF t_1=>hO good [] [1000000] Tryz.func201 Z Z λ r h0 _ w0 F=>?_;rw [fw] at h0;have:=js [501,901];have:=jS 501 Bool λ v=>[(22,.p (eB v))]
  have:=jO 901 Int λ v=>[(5,[.p (eI 1),.p (eI v),.p (eS ([]:Bytes)),.p (.val (.slice none 0 0)),.p (.val (.slice none 0 0))])]
  exact J0
 ·refine λ OF t_1=>hO good [] [1000000] Tryz.func202 Z Z λ r h0 _ w0 F=>?_;rw [iE] at h0;exact J0
 ·refine λ OF t_1=>hO good [] [1000000] Tryz.func203 Z Z λ r h0 _ w0 F=>?_;rw [gP] at h0;refine nx 11 Z (oA h0 Z Z λ W8 h0=>?_);refine nx 10 Z (oA h0 Z Z λ Vg h0=>?_);refine nx 7 Z (K0 λ r3 h0=>?_);refine nx 7 Z (fB [5,22,23] h0 Z (λ c5 h0=>?_) λ c5 h0=>?_)
  ·exact J0
  refine nx 12 Z (bd h0 λ Z' h1 h0=>?_);refine kE 0 Z' (λ ZW=>⟨[(0,.ptr 1000000 0),(4,.ptr 4 0),(6,.ptr 6 0)],[(4,aE),(6,(eA (.vec 62 11 0 (ZW.1.map ak)) (.p (eI t_1.fAt)))),(1000000,(a6 ZW.2))]⟩) ?_ ?_
  ·have:=js [1601];have:=jO 1601 (List ac×Int×Int×Int×Int×Bytes) λ v=>[(1000000,(a6 v))]
   exact J0
  refine lG (λ (Vy:(List ad)×(List ac)×Int×Int×Int×Int×Bytes)=>⟨[(0,.ptr 1000000 0),(4,.ptr 4 0),(6,.ptr 6 0)],[(4,aE),(6,(eA (.vec 62 11 0 (Vy.1.map ak)) (.p (eI t_1.fAt)))),(1000000,(a6 Vy.2))]⟩) (λ m (Vy:(List ad)×(List ac)×Int×Int×Int×Int×Bytes)=>bn n (cb n) (bc n) m Vy.1 Vy.2.1 Vy.2.2.1 Vy.2.2.2.1 Vy.2.2.2.2.1 Vy.2.2.2.2.2.1 Vy.2.2.2.2.2.2) Y ([],r3.2.fL,r3.2.fI,r3.2.fIn,r3.2.fD.Ar,r3.2.fD.fAt,r3.2.fD.AI) h1 (dN (kU ⟨er rfl,er rfl,er rfl,trivial⟩ ⟨⟨_,rfl,⟨sr,sr,sr,sr,sr,sr,sr,sr,sr,sr,sr,trivial⟩⟩,⟨_,rfl,⟨sr,sr,sr,sr,sr,sr,sr,sr,sr,AV.sub_nilvec _ _ _,sr,trivial⟩⟩,⟨_,rfl,⟨sr,sr,sr,sr,sr,sr,trivial⟩⟩,trivial⟩)) ?_;rintro m ⟨TT,WA,Zu,Zt,Zs,Zq,Zp⟩ h1;replace h1:bn n (cb n) (bc n) (m+1) TT WA Zu Zt Zs Zq Zp=some Z':=h1;rw [bn] at h1;refine nx 2 rfl (bd h1 λ Zb h2 h1=>?_);refine kN Zb (λ ZV=>⟨[(0,.ptr 1000000 0),(4,.ptr 4 0),(6,.ptr 6 0),(44,.p (eB ZV.1))],[(4,aE),(6,(eA (.vec 62 11 0 (TT.map ak)) (.p (eI t_1.fAt)))),(1000000,(a6 ZV.2))]⟩) ?_ ?_
  ·refine nx 1 Z (fB [44] h1 Z (λ c87 h1=>?_) λ c87 h1=>?_)
   ·refine nx 2 Z (bd h1 λ o165 h2 h1=>?_);refine kN o165 (λ ZU=>⟨[(0,.ptr 1000000 0),(4,.ptr 4 0),(6,.ptr 6 0)],[(4,aE),(6,(eA (.vec 62 11 0 (ZU.1.map ak)) (.p (eI t_1.fAt)))),(1000000,(a6 ZU.2))]⟩) ?_ ?_
    ·exact ay
    refine nx 2 Z (bd h2 λ UB e89 h2=>?_);refine cc' h2 λ hk90 h2=>mG (gE (t:=⟨[(0,.ptr 1000000 0),(4,.ptr 4 0),(6,.ptr 6 0)],[(4,aE),(6,(eA (.vec 62 11 0 (TT.map ak)) (.p (eI t_1.fAt)))),(1000000,(a6 Zb.2))]⟩) Z Z) (mSq ⟨3,[3,5,7],(by4 (.some (cm [] 114000 114000)) (.some λ i=>Nat.beq i 62||Nat.beq i 50) .none .none),(λ _=>[(0,.ptr 1000000 0),(4,.ptr 4 0),(6,.ptr 6 0)]),(by4 ([(4,aE),(6,(eA (.vec 62 11 0 (TT.map ak)) (.p (eI t_1.fAt)))),(1000000,(a6 Zb.2))]) ([(1000000,((ai.cs UB.2).map .p)),(4,aE),(6,(eA (.vec 62 11 0 (TT.map ak)) (.p (eI t_1.fAt))))]) ([(1000000,((ai.cs UB.2).map .p)),(4,aE),(6,(eA (.p (eL ak TT)) (.p (eI t_1.fAt))))]) ([(6,(eA (.vec 50 11 0 ((TT++[UB.1]).map ak)) (.p (eI t_1.fAt)))),(1000000,((ai.cs UB.2).map .p)),(4,aE),(6,(eA (.p (eL ak TT)) (.p (eI t_1.fAt))))]))⟩ Z ?_);refine dPc (.ptr 6 9) Z (dP (by4 (.vec 62 11 0 (TT.map ak)) (.vec 62 11 0 (TT.map ak)) (.p (eL ak TT)) (.p (eL ak TT))) Z ?_);refine dPc (.ptr 1000000 0) Z (dI (λ _=>.p (.agg (ad.cs UB.1))) [47] Z (λ sl Sk K hK=>ap Z (aW [1000000] [] 114000 114000 (HO.c e89) Z Z Z (aT (Sk _ _ Z) b9) Z ⟨sr,trivial⟩ Z Z ⟨⟨_,Z,⟨sr,sr,sr,sr,sr,sr,trivial⟩⟩,trivial⟩ Z Z Z Z Z Z Z Z Tryz.call218 Z Z hK)) ?_);refine dO (.p (eL ak [UB.1])) [48] Z (λ _ sl Sk K hK=>ap Z (aH ak [UB.1] Z Z Z Z Z Z (cO (Sk _ _ Z) Z dW) Z Z Z Z Z Z ff hK)) (dI (λ _=>.vec 50 11 0 ((TT++[UB.1]).map ak)) [46,49] Z (λ sl Sk K hK=>ap Z (dZ ak TT [UB.1] Z Z Z Z Z Z Z Z (Sk _ _ Z) Z Z (Sk _ _ Z) Z (λ x=>congrArg List.length (ad.It x)) Z Z Z Z hk90 hK)) ?_);refine dPc (.ptr 6 9) Z (dS Z ?_);refine fj (nx 2 Z ?_);refine bd h2 λ Za h3 h2=>kN Za (λ v168=>⟨[(0,.ptr 1000000 0),(4,.ptr 4 0),(6,.ptr 6 0)],[(4,aE),(6,(eA (.vec 50 11 0 ((TT++[UB.1]).map ak)) (.p (eI t_1.fAt)))),(1000000,(a6 v168))]⟩) ?_ ?_
    ·refine nx 2 Z (bd h2 λ Ur e103 h2=>?_);refine cc' h2 λ aas h2=>mG (gE (t:=⟨[(0,.ptr 1000000 0),(4,.ptr 4 0),(6,.ptr 6 0)],[(4,aE),(6,(eA (.vec 50 11 0 ((TT++[UB.1]).map ak)) (.p (eI t_1.fAt)))),(1000000,(a6 Za))]⟩) Z Z) (mSq ⟨3,[3,5,7],(by4 (.some (cm [] 117000 117000)) (.some λ i=>Nat.beq i 50||Nat.beq i 62) .none .none),(λ _=>[(0,.ptr 1000000 0),(4,.ptr 4 0),(6,.ptr 6 0)]),(by4 ([(4,aE),(6,(eA (.vec 50 11 0 ((TT++[UB.1]).map ak)) (.p (eI t_1.fAt)))),(1000000,(a6 Za))]) ([(1000000,((ai.cs Ur.2).map .p)),(4,aE),(6,(eA (.vec 50 11 0 ((TT++[UB.1]).map ak)) (.p (eI t_1.fAt))))]) ([(1000000,((ai.cs Ur.2).map .p)),(4,aE),(6,(eA (.p (eL ak (TT++[UB.1]))) (.p (eI t_1.fAt))))]) ([(6,(eA (.vec 62 11 0 (((TT++[UB.1])++[Ur.1]).map ak)) (.p (eI t_1.fAt)))),(1000000,((ai.cs Ur.2).map .p)),(4,aE),(6,(eA (.p (eL ak (TT++[UB.1]))) (.p (eI t_1.fAt))))]))⟩ Z ?_);refine dPc (.ptr 6 9) Z (dP (by4 (.vec 50 11 0 ((TT++[UB.1]).map ak)) (.vec 50 11 0 ((TT++[UB.1]).map ak)) (.p (eL ak (TT++[UB.1]))) (.p (eL ak (TT++[UB.1])))) Z ?_);refine dPc (.ptr 1000000 0) Z (dI (λ _=>.p (.agg (ad.cs Ur.1))) [59] Z (λ sl Sk K hK=>ap Z (aW [1000000] [] 117000 117000 (HO.c e103) Z Z Z (aT (Sk _ _ Z) b9) Z ⟨sr,trivial⟩ Z Z ⟨⟨_,Z,⟨sr,sr,sr,sr,sr,sr,trivial⟩⟩,trivial⟩ Z Z Z Z Z Z Z Z Tryz.call219 Z Z hK)) ?_);refine dO (.p (eL ak [Ur.1])) [60] Z (λ _ sl Sk K hK=>ap Z (aH ak [Ur.1] Z Z Z Z Z Z (cO (Sk _ _ Z) Z dW) Z Z Z Z Z Z ff hK)) (dI (λ _=>.vec 62 11 0 (((TT++[UB.1])++[Ur.1]).map ak)) [58,61] Z (λ sl Sk K hK=>ap Z (dZ ak (TT++[UB.1]) [Ur.1] Z Z Z Z Z Z Z Z (Sk _ _ Z) Z Z (Sk _ _ Z) Z (λ x=>congrArg List.length (ad.It x)) Z Z Z Z aas hK)) ?_);refine dPc (.ptr 6 9) Z (dS Z ?_);refine fj (nx 2 Z ?_);refine bd h2 λ o169 h3 h2=>kN o169 (λ ZS=>⟨[(0,.ptr 1000000 0),(4,.ptr 4 0),(6,.ptr 6 0),(71,.p (eB ZS.1))],[(4,aE),(6,(eA (.vec 62 11 0 (((TT++[UB.1])++[Ur.1]).map ak)) (.p (eI t_1.fAt)))),(1000000,(a6 ZS.2))]⟩) ?_ ?_
     ·exact bV
     refine nx 2 Z (bd h3 λ VK e106 h3=>?_);refine mO Z (cVq [1000000] [] 118000 118000 (HO.c e106) Tryz.call72 Z ?_);refine nx 2 Z (fB [66,67] h3 Z (λ c107 h3=>?_) λ c107 h3=>?_)
     ·refine nx 1 Z (bd h3 λ TL ZA h3=>?_);refine mO Z (cVq [1000000] [] 119000 119000 (HO.c ZA) Tryz.call108 Z ?_);exact nx 3 Z lA
     exact BD
    refine nx 3 Z (bd h3 λ Yb e92 h3=>?_);refine mO Z (cVq [1000000] [] 115000 115000 (HO.c e92) Tryz.call72 Z ?_);refine nx 2 Z (fB [54] h3 Z (λ c93 h3=>?_) λ c93 h3=>?_)
    ·refine nx 3 Z (bd h3 λ Vn e95 h3=>?_);refine mO Z (cVq [1000000] [] 116000 116000 (HO.c e95) Tryz.call109 Z ?_);exact nx 1 Z lA
    exact mi
   exact ay
  exact bV
 ·refine λ OF end_1=>hO good [] [1000000] Tryz.func215 Z Z λ r h0 _ w0 F=>?_;rw [eQ] at h0;refine nx 14 Z (oA h0 Z Z λ W8 h0=>?_);refine nx 6 Z (bd h0 λ aac h1 h0=>?_);refine kE 0 aac (λ Z2=>⟨[(0,.ptr 1000000 0),(5,.vec 26 11 0 (Z2.1.map ak))],[(1000000,(a6 Z2.2))]⟩) ?_ ?_
  ·have:=js [801];have:=jO 801 (List ac×Int×Int×Int×Int×Bytes) λ v=>[(1000000,(a6 v))]
   exact J0
  refine lG (λ (Vz:(List ad)×(List ac)×Int×Int×Int×Int×Bytes)=>⟨[(0,.ptr 1000000 0),(1,.p (eS end_1)),(5,.vec 26 11 0 (Vz.1.map ak))],[(1000000,(a6 Vz.2))]⟩) (λ m (Vz:(List ad)×(List ac)×Int×Int×Int×Int×Bytes)=>bu n (aK n) end_1 m Vz.1 Vz.2.1 Vz.2.2.1 Vz.2.2.2.1 Vz.2.2.2.2.1 Vz.2.2.2.2.2.1 Vz.2.2.2.2.2.2) Y ([],OF.fL,OF.fI,OF.fIn+1,OF.fD.Ar,OF.fD.fAt,OF.fD.AI) h1 (dN (kU ⟨er rfl,er rfl,⟨_,rfl,AV.sub_nilvec _ _ _⟩,trivial⟩ ⟨⟨_,rfl,⟨sr,sr,sr,sr,sr,sr,trivial⟩⟩,trivial⟩)) ?_;rintro m ⟨UI,WM,WL,WK,Vu,VR,WJ⟩ h1;replace h1:bu n (aK n) end_1 (m+1) UI WM WL WK Vu VR WJ=some aac:=h1;rw [bu] at h1;refine nx 2 rfl (bd h1 λ o127 h2 h1=>?_);refine kN o127 (λ Z1=>⟨[(0,.ptr 1000000 0),(1,.p (eS end_1)),(5,.vec 26 11 0 (UI.map ak)),(21,.p (eB Z1.1))],[(1000000,(a6 Z1.2))]⟩) ?_ ?_
  ·refine nx 1 Z (fB [21] h1 Z (λ c66 h1=>?_) λ c66 h1=>?_)
   ·refine nx 2 Z (bd h1 λ o129 h2 h1=>?_);refine kN o129 (λ Z0=>⟨[(0,.ptr 1000000 0),(1,.p (eS end_1)),(5,.vec 26 11 0 (Z0.1.map ak))],[(1000000,(a6 Z0.2))]⟩) ?_ ?_
    ·exact ay
    refine nx 5 Z (K2 λ YC h2=>?_);refine mO Z (aH ak [YC.1] Z Z Z Z Z Z Z Z Z Z Z Z Z ff ?_);refine cc' h2 λ Zg h2=>mO Z (dZ ak UI [YC.1] Z Z Z Z Z Z Z Z Z Z Z Z Z (λ x=>congrArg List.length (ad.It x)) Z Z Z Z Zg ?_);refine nx 3 Z (bd h2 λ o131 h3 h2=>?_);refine kN o131 (λ ZZ=>⟨[(0,.ptr 1000000 0),(1,.p (eS end_1)),(5,.vec 26 11 0 ((UI++[YC.1]).map ak)),(35,.p (eB ZZ.1))],[(1000000,(a6 ZZ.2))]⟩) ?_ ?_
    ·exact bV
    refine nx 2 Z (bd h3 λ Yd e71 h3=>?_);refine mO Z (cVq [1000000] [] 110000 110000 (HO.c e71) Tryz.call72 Z ?_);refine nx 2 Z (fB [29,30] h3 Z (λ c72 h3=>?_) λ c72 h3=>?_)
    ·refine nx 2 Z (bd h3 λ Uu e74 h3=>?_);refine mO Z (cVq [1000000] [] 111000 111000 (HO.c e74) Tryz.call108 Z ?_);exact nx 3 Z lA
    exact Cd
   exact ay
  exact bV
 ·refine λ OF t_1 end_2=>hO good [] [1000000] Tryz.func217 Z Z λ r h0 _ w0 F=>?_;rw [d7] at h0;refine nx 14 Z (bd h0 λ Tv h1 h0=>?_);refine kN Tv (λ v142=>⟨[(0,.ptr 1000000 0),(2,.p (eS end_2)),(6,.ptr 6 0),(7,.ptr 7 0)],[(6,aE),(7,[.p (eI v142),.p (eI 0),.p (eS ([]:Bytes)),.p (eS ([]:Bytes)),.p (eI 0),.p (eI 0),.p (eS ([]:Bytes)),.p (.val (.slice none 0 0)),.p (.val (.slice none 0 0)),.p (.val (.slice none 0 0)),.p (eI t_1.fAt)]),(1000000,((ai.cs OF).map .p))]⟩) ?_ ?_
  ·refine nx 7 Z (oA h0 Z Z λ XF h0=>?_);refine nx 7 Z (K0 λ r4 h0=>?_);refine nx 7 Z (oA h0 Z Z λ hk6 h0=>?_);refine nx 7 Z (K0 λ r7 h0=>?_);refine nx 4 Z (bd h0 λ SY h1 h0=>?_);refine kN SY (λ YT=>⟨[(0,.ptr 1000000 0),(2,.p (eS end_2)),(6,.ptr 6 0),(7,.ptr 7 0)],[(6,aE),(7,(mj (.p (eI Tv)) (.p (eS YT.1)) (.p (eS YT.2.1)) (.p (eI t_1.fAt)))),(1000000,(a6 YT.2.2))]⟩) ?_ ?_
   ·refine nx 2 Z (bd h0 λ U1 h1 h0=>?_);refine kN U1 (λ v146=>⟨[(0,.ptr 1000000 0),(2,.p (eS end_2)),(6,.ptr 6 0),(7,.ptr 7 0)],[(6,aE),(7,(mj (.p (eI Tv)) (.p (eS SY.1)) (.p (eS SY.2.1)) (.p (eI t_1.fAt)))),(1000000,(a6 v146))]⟩) ?_ ?_
    ·refine nx 7 Z (oA h0 Z Z λ W4 h0=>?_);refine nx 5 Z (bd h0 λ TB e56 h0=>?_);refine cc' h0 λ W3 h0=>mG (gE (t:=⟨[(0,.ptr 1000000 0),(2,.p (eS end_2)),(6,.ptr 6 0),(7,.ptr 7 0)],[(6,aE),(7,(mj (.p (eI Tv)) (.p (eS SY.1)) (.p (eS SY.2.1)) (.p (eI t_1.fAt)))),(1000000,[.p (eL aF U1.1),.p (eI (U1.2.1+1)),.p (eI U1.2.2.1),.p (eI U1.2.2.2.1),.p (eI U1.2.2.2.2.1),.p (eS U1.2.2.2.2.2)])]⟩) Z Z) (mSq ⟨3,[3,5,7],(by4 (.some (cm [] 109000 109000)) (.some λ i=>Nat.beq i 75) .none .none),(λ _=>[(0,.ptr 1000000 0),(2,.p (eS end_2)),(6,.ptr 6 0),(7,.ptr 7 0)]),(by4 ([(6,aE),(7,(mj (.p (eI Tv)) (.p (eS SY.1)) (.p (eS SY.2.1)) (.p (eI t_1.fAt)))),(1000000,[.p (eL aF U1.1),.p (eI (U1.2.1+1)),.p (eI U1.2.2.1),.p (eI U1.2.2.2.1),.p (eI U1.2.2.2.2.1),.p (eS U1.2.2.2.2.2)])]) ([(1000000,((ai.cs TB.2).map .p)),(6,aE),(7,(mj (.p (eI Tv)) (.p (eS SY.1)) (.p (eS SY.2.1)) (.p (eI t_1.fAt))))]) ([(1000000,((ai.cs TB.2).map .p)),(6,aE),(7,(mj (.p (eI Tv)) (.p (eS SY.1)) (.p (eS SY.2.1)) (.p (eI t_1.fAt))))]) ([(7,(cU (.p (eI Tv)) (.p (eS SY.1)) (.p (eS SY.2.1)) (.vec 75 11 0 ([TB.1].map ak)) (.p (eI t_1.fAt)))),(1000000,((ai.cs TB.2).map .p)),(6,aE),(7,(mj (.p (eI Tv)) (.p (eS SY.1)) (.p (eS SY.2.1)) (.p (eI t_1.fAt))))]))⟩ Z ?_);refine dPc (.ptr 7 9) Z (dPc (.p (.val (.slice none 0 0))) Z ?_);refine dPc (.ptr 1000000 0) Z (dI (λ _=>.p (.agg (ad.cs TB.1))) [72] Z (λ sl Sk K hK=>ap Z (aW [1000000] [] 109000 109000 (HO.c e56) Z Z Z (aT (Sk _ _ Z) b9) Z ⟨sr,trivial⟩ Z Z ⟨⟨_,Z,⟨sr,sr,sr,sr,sr,sr,trivial⟩⟩,trivial⟩ Z Z Z Z Z Z Z Z Tryz.call219 Z Z hK)) ?_);refine dO (.p (eL ak [TB.1])) [73] Z (λ _ sl Sk K hK=>ap Z (aH ak [TB.1] Z Z Z Z Z Z (cO (Sk _ _ Z) Z dW) Z Z Z Z Z Z ff hK)) (dI (λ _=>.vec 75 11 0 ([TB.1].map ak)) [71,74] Z (λ sl Sk K hK=>ap Z (Du ak [TB.1] 0 Z Z Z Z Z Z Z Z (Sk _ _ Z) (Sk _ _ Z) Z (λ x=>congrArg List.length (ad.It x)) Z Z Z Z W3 hK)) ?_);refine dPc (.ptr 7 9) Z (dS Z ?_);refine fj (nx 2 Z ?_);refine bd h0 λ Zc h1 h0=>kN Zc (λ v148=>⟨[(0,.ptr 1000000 0),(2,.p (eS end_2)),(6,.ptr 6 0),(7,.ptr 7 0)],[(6,aE),(7,(cU (.p (eI Tv)) (.p (eS SY.1)) (.p (eS SY.2.1)) (.vec 75 11 0 ([TB.1].map ak)) (.p (eI t_1.fAt)))),(1000000,(a6 v148))]⟩) ?_ ?_
     ·refine nx 2 Z (bd h0 λ TW e70 h0=>?_);refine cc' h0 λ Zf h0=>mG (gE (t:=⟨[(0,.ptr 1000000 0),(2,.p (eS end_2)),(6,.ptr 6 0),(7,.ptr 7 0)],[(6,aE),(7,(cU (.p (eI Tv)) (.p (eS SY.1)) (.p (eS SY.2.1)) (.vec 75 11 0 ([TB.1].map ak)) (.p (eI t_1.fAt)))),(1000000,(a6 Zc))]⟩) Z Z) (mSq ⟨3,[3,5,7],(by4 (.some (cm [] 112000 112000)) (.some λ i=>Nat.beq i 75||Nat.beq i 87) .none .none),(λ _=>[(0,.ptr 1000000 0),(2,.p (eS end_2)),(6,.ptr 6 0),(7,.ptr 7 0)]),(by4 ([(6,aE),(7,(cU (.p (eI Tv)) (.p (eS SY.1)) (.p (eS SY.2.1)) (.vec 75 11 0 ([TB.1].map ak)) (.p (eI t_1.fAt)))),(1000000,(a6 Zc))]) ([(1000000,((ai.cs TW.2).map .p)),(6,aE),(7,(cU (.p (eI Tv)) (.p (eS SY.1)) (.p (eS SY.2.1)) (.vec 75 11 0 ([TB.1].map ak)) (.p (eI t_1.fAt))))]) ([(1000000,((ai.cs TW.2).map .p)),(6,aE),(7,(cU (.p (eI Tv)) (.p (eS SY.1)) (.p (eS SY.2.1)) (.p (eL ak [TB.1])) (.p (eI t_1.fAt))))]) ([(7,(cU (.p (eI Tv)) (.p (eS SY.1)) (.p (eS SY.2.1)) (.vec 87 11 0 (([TB.1]++[TW.1]).map ak)) (.p (eI t_1.fAt)))),(1000000,((ai.cs TW.2).map .p)),(6,aE),(7,(cU (.p (eI Tv)) (.p (eS SY.1)) (.p (eS SY.2.1)) (.p (eL ak [TB.1])) (.p (eI t_1.fAt))))]))⟩ Z ?_);refine dPc (.ptr 7 9) Z (dP (by4 (.vec 75 11 0 ([TB.1].map ak)) (.vec 75 11 0 ([TB.1].map ak)) (.p (eL ak [TB.1])) (.p (eL ak [TB.1]))) Z ?_);refine dPc (.ptr 1000000 0) Z (dI (λ _=>.p (.agg (ad.cs TW.1))) [84] Z (λ sl Sk K hK=>ap Z (aW [1000000] [] 112000 112000 (HO.c e70) Z Z Z (aT (Sk _ _ Z) b9) Z ⟨sr,trivial⟩ Z Z ⟨⟨_,Z,⟨sr,sr,sr,sr,sr,sr,trivial⟩⟩,trivial⟩ Z Z Z Z Z Z Z Z Tryz.call219 Z Z hK)) ?_);refine dO (.p (eL ak [TW.1])) [85] Z (λ _ sl Sk K hK=>ap Z (aH ak [TW.1] Z Z Z Z Z Z (cO (Sk _ _ Z) Z dW) Z Z Z Z Z Z ff hK)) (dI (λ _=>.vec 87 11 0 (([TB.1]++[TW.1]).map ak)) [83,86] Z (λ sl Sk K hK=>ap Z (dZ ak [TB.1] [TW.1] Z Z Z Z Z Z Z Z (Sk _ _ Z) Z Z (Sk _ _ Z) Z (λ x=>congrArg List.length (ad.It x)) Z Z Z Z Zf hK)) ?_);refine dPc (.ptr 7 9) Z (dS Z ?_);refine fj (nx 2 Z ?_);refine bd h0 λ UK h1 h0=>kN UK (λ ZY=>⟨[(0,.ptr 1000000 0),(2,.p (eS end_2)),(6,.ptr 6 0),(7,.ptr 7 0)],[(6,aE),(7,(cU (.p (eI Tv)) (.p (eS SY.1)) (.p (eS SY.2.1)) (.vec 101 11 0 (ZY.1.map ak)) (.p (eI t_1.fAt)))),(1000000,(a6 ZY.2))]⟩) ?_ ?_
      ·refine nx 2 Z (bd h0 λ o151 h1 h0=>?_);refine kN o151 (λ ZX=>⟨[(0,.ptr 1000000 0),(2,.p (eS end_2)),(6,.ptr 6 0),(7,.ptr 7 0)],[(6,aE),(7,(cU (.p (eI Tv)) (.p (eS SY.1)) (.p (eS SY.2.1)) (.vec 122 11 0 (ZX.1.map ak)) (.p (eI t_1.fAt)))),(1000000,(a6 ZX.2))]⟩) ?_ ?_
       ·have:=js [2601];have:=jO 2601 (List ac×Int×Int×Int×Int×Bytes) λ v=>[(1000000,(a6 v))]
        exact J0
       refine nx 1 Z (bd h1 λ Us h2 h1=>?_);refine kN Us (λ TX=>⟨[(0,.ptr 1000000 0),(2,.p (eS end_2)),(6,.ptr 6 0),(7,.ptr 7 0),(109,.p (eB TX.1))],[(6,aE),(7,(cU (.p (eI Tv)) (.p (eS SY.1)) (.p (eS SY.2.1)) (.vec 101 11 0 (UK.1.map ak)) (.p (eI t_1.fAt)))),(1000000,(a6 TX.2))]⟩) ?_ ?_
       ·refine nx 1 Z (fB [109] h1 Z (λ c106 h1=>?_) λ c106 h1=>?_)
        ·refine nx 7 Z (oA h1 Z Z λ aar h1=>?_);refine nx 4 Z (bd h1 λ TL ZA h1=>?_);refine cc' h1 λ aaq h1=>mG (gE (t:=⟨[(0,.ptr 1000000 0),(2,.p (eS end_2)),(6,.ptr 6 0),(7,.ptr 7 0)],[(6,aE),(7,(cU (.p (eI Tv)) (.p (eS SY.1)) (.p (eS SY.2.1)) (.vec 101 11 0 (UK.1.map ak)) (.p (eI t_1.fAt)))),(1000000,[.p (eL aF Us.2.1),.p (eI (Us.2.2.1+1)),.p (eI Us.2.2.2.1),.p (eI Us.2.2.2.2.1),.p (eI Us.2.2.2.2.2.1),.p (eS Us.2.2.2.2.2.2)])]⟩) Z Z) (mSq ⟨3,[3,5,7],(by4 (.some (cm [] 118000 118000)) (.some λ i=>Nat.beq i 101||Nat.beq i 122) .none .none),(λ _=>[(0,.ptr 1000000 0),(2,.p (eS end_2)),(6,.ptr 6 0),(7,.ptr 7 0)]),(by4 ([(6,aE),(7,(cU (.p (eI Tv)) (.p (eS SY.1)) (.p (eS SY.2.1)) (.vec 101 11 0 (UK.1.map ak)) (.p (eI t_1.fAt)))),(1000000,[.p (eL aF Us.2.1),.p (eI (Us.2.2.1+1)),.p (eI Us.2.2.2.1),.p (eI Us.2.2.2.2.1),.p (eI Us.2.2.2.2.2.1),.p (eS Us.2.2.2.2.2.2)])]) ([(1000000,((ai.cs TL.2).map .p)),(6,aE),(7,(cU (.p (eI Tv)) (.p (eS SY.1)) (.p (eS SY.2.1)) (.vec 101 11 0 (UK.1.map ak)) (.p (eI t_1.fAt))))]) ([(1000000,((ai.cs TL.2).map .p)),(6,aE),(7,(cU (.p (eI Tv)) (.p (eS SY.1)) (.p (eS SY.2.1)) (.p (eL ak UK.1)) (.p (eI t_1.fAt))))]) ([(7,(cU (.p (eI Tv)) (.p (eS SY.1)) (.p (eS SY.2.1)) (.vec 122 11 0 ((UK.1++[TL.1]).map ak)) (.p (eI t_1.fAt)))),(1000000,((ai.cs TL.2).map .p)),(6,aE),(7,(cU (.p (eI Tv)) (.p (eS SY.1)) (.p (eS SY.2.1)) (.p (eL ak UK.1)) (.p (eI t_1.fAt))))]))⟩ Z ?_);refine dPc (.ptr 7 9) Z (dP (by4 (.vec 101 11 0 (UK.1.map ak)) (.vec 101 11 0 (UK.1.map ak)) (.p (eL ak UK.1)) (.p (eL ak UK.1))) Z ?_);refine dPc (.ptr 1000000 0) Z (dI (λ _=>.p (.agg (ad.cs TL.1))) [119] Z (λ sl Sk K hK=>ap Z (aW [1000000] [] 118000 118000 (HO.c ZA) Z Z Z (aT (Sk _ _ Z) b9) Z ⟨sr,trivial⟩ Z Z ⟨⟨_,Z,⟨sr,sr,sr,sr,sr,sr,trivial⟩⟩,trivial⟩ Z Z Z Z Z Z Z Z Tryz.call219 Z Z hK)) ?_);refine dO (.p (eL ak [TL.1])) [120] Z (λ _ sl Sk K hK=>ap Z (aH ak [TL.1] Z Z Z Z Z Z (cO (Sk _ _ Z) Z dW) Z Z Z Z Z Z ff hK)) (dI (λ _=>.vec 122 11 0 ((UK.1++[TL.1]).map ak)) [118,121] Z (λ sl Sk K hK=>ap Z (dZ ak UK.1 [TL.1] Z Z Z Z Z Z Z Z (Sk _ _ Z) Z Z (Sk _ _ Z) Z (λ x=>congrArg List.length (ad.It x)) Z Z Z Z aaq hK)) ?_);refine dPc (.ptr 7 9) Z (dS Z ?_);exact ay
        exact nx 2 Z (eX _ (oi h1).symm (bj (ca 101 122 Z Z Z Z Z) (gE Z Z)))
       exact bV
      refine nx 3 Z (oS Z Z ?_);refine nx 1 Z (fD [90] h1 Z (λ c72 h1=>?_) λ c72 h1=>?_)
      ·refine nx 2 Z (bd h1 λ XA h2 h1=>?_);refine kN XA (λ YS=>⟨[(0,.ptr 1000000 0),(2,.p (eS end_2)),(6,.ptr 6 0),(7,.ptr 7 0)],[(6,aE),(7,(cU (.p (eI Tv)) (.p (eS SY.1)) (.p (eS SY.2.1)) (.vec 87 11 0 (([TB.1]++[TW.1]).map ak)) (.p (eI t_1.fAt)))),(1000000,(a6 YS))]⟩) ?_ ?_
       ·refine nx 1 Z (bd h1 λ VT e85 h1=>?_);refine cc' h1 λ hk86 h1=>mG (gE (t:=⟨[(0,.ptr 1000000 0),(2,.p (eS end_2)),(6,.ptr 6 0),(7,.ptr 7 0)],[(6,aE),(7,(cU (.p (eI Tv)) (.p (eS SY.1)) (.p (eS SY.2.1)) (.vec 87 11 0 (([TB.1]++[TW.1]).map ak)) (.p (eI t_1.fAt)))),(1000000,(a6 XA))]⟩) Z Z) (mSq ⟨3,[3,5,7],(by4 (.some (cm [] 115000 115000)) (.some λ i=>Nat.beq i 87||Nat.beq i 101) .none .none),(λ _=>[(0,.ptr 1000000 0),(2,.p (eS end_2)),(6,.ptr 6 0),(7,.ptr 7 0)]),(by4 ([(6,aE),(7,(cU (.p (eI Tv)) (.p (eS SY.1)) (.p (eS SY.2.1)) (.vec 87 11 0 (([TB.1]++[TW.1]).map ak)) (.p (eI t_1.fAt)))),(1000000,(a6 XA))]) ([(1000000,((ai.cs VT.2).map .p)),(6,aE),(7,(cU (.p (eI Tv)) (.p (eS SY.1)) (.p (eS SY.2.1)) (.vec 87 11 0 (([TB.1]++[TW.1]).map ak)) (.p (eI t_1.fAt))))]) ([(1000000,((ai.cs VT.2).map .p)),(6,aE),(7,(cU (.p (eI Tv)) (.p (eS SY.1)) (.p (eS SY.2.1)) (.p (eL ak ([TB.1]++[TW.1]))) (.p (eI t_1.fAt))))]) ([(7,(cU (.p (eI Tv)) (.p (eS SY.1)) (.p (eS SY.2.1)) (.vec 101 11 0 ((([TB.1]++[TW.1])++[VT.1]).map ak)) (.p (eI t_1.fAt)))),(1000000,((ai.cs VT.2).map .p)),(6,aE),(7,(cU (.p (eI Tv)) (.p (eS SY.1)) (.p (eS SY.2.1)) (.p (eL ak ([TB.1]++[TW.1]))) (.p (eI t_1.fAt))))]))⟩ Z ?_);refine dPc (.ptr 7 9) Z (dP (by4 (.vec 87 11 0 (([TB.1]++[TW.1]).map ak)) (.vec 87 11 0 (([TB.1]++[TW.1]).map ak)) (.p (eL ak ([TB.1]++[TW.1]))) (.p (eL ak ([TB.1]++[TW.1])))) Z ?_);refine dPc (.ptr 1000000 0) Z (dI (λ _=>.p (.agg (ad.cs VT.1))) [98] Z (λ sl Sk K hK=>ap Z (aW [1000000] [] 115000 115000 (HO.c e85) Z Z Z (aT (Sk _ _ Z) b9) Z ⟨sr,trivial⟩ Z Z ⟨⟨_,Z,⟨sr,sr,sr,sr,sr,sr,trivial⟩⟩,trivial⟩ Z Z Z Z Z Z Z Z Tryz.call219 Z Z hK)) ?_);refine dO (.p (eL ak [VT.1])) [99] Z (λ _ sl Sk K hK=>ap Z (aH ak [VT.1] Z Z Z Z Z Z (cO (Sk _ _ Z) Z dW) Z Z Z Z Z Z ff hK)) (dI (λ _=>.vec 101 11 0 ((([TB.1]++[TW.1])++[VT.1]).map ak)) [97,100] Z (λ sl Sk K hK=>ap Z (dZ ak ([TB.1]++[TW.1]) [VT.1] Z Z Z Z Z Z Z Z (Sk _ _ Z) Z Z (Sk _ _ Z) Z (λ x=>congrArg List.length (ad.It x)) Z Z Z Z hk86 hK)) ?_);refine dPc (.ptr 7 9) Z (dS Z ?_);exact ay
       exact bV
      exact nx 2 Z (eX _ (oi h1).symm (bj (ca 87 101 Z Z Z Z Z) (gE Z Z)))
     exact ay
    have:=js [1200];have:=jB 1200 (Bool×List ac×Int×Int×Int×Int×Bytes) (λ v=>[(60,.p (eB v.1))]) λ v=>[(1000000,(a6 v.2))]
    exact ay
   have:=js [800];have:=jB 800 (Bool×List ac×Int×Int×Int×Int×Bytes) (λ v=>[(39,.p (eB v.1))]) λ v=>[(1000000,(a6 v.2))]
   exact ay
  exact ay
 ·refine λ OF=>hO good [] [1000000] Tryz.func218 Z Z λ r h0 _ w0 F=>?_;rw [cb] at h0;have:=js [500];have:=jB 500 (Bool×List ac×Int×Int×Int×Int×Bytes) (λ v=>[(28,.p (eB v.1))]) λ v=>[(1000000,(a6 v.2))]
  exact J0
 ·refine λ OF=>hO good [] [1000000] Tryz.func219 Z Z λ r h0 _ w0 F=>?_;rw [bc] at h0;exact J0
instance FJ (n:Nat):ux (db n) 35:=(qp n).2.1
def kM (n:Nat)(Mr:Bytes):Option (ad×ao) :=
 (db n Mr 0).bind λ r1 =>
 (cM n (ai.mk [] 0 0 r1.2) r1.1).bind λ r3 =>
 some (r3.1,r3.2.1)
instance J2 (n:Nat) (Mr:Bytes):∀ (r:ad×ao),HP (kM n Mr=some r) Tryz.prog 17 [eS Mr] (.tuple [.p (.agg (ad.cs r.1)),.p (.agg (ao.cs r.2))]):=by
 refine hP good Tryz.func17 Z Z λ r h0 _ w0=>?_;unfold kM at h0;refine nx 8 Z (K0 λ r1 h0=>nx 19 Z ?_);refine bd h0 λ r3 e4 h0=>mO Z (aW [14] [] 101000 101000 (HO.c e4) Z Z Z Z Z ⟨sr,sr,trivial⟩ Z Z ⟨⟨_,Z,⟨iy _,sr,sr,sr,sr,sr,trivial⟩⟩,trivial⟩ Z Z Z Z Z Z Z Z Tryz.call36 Z Z ?_);exact J0
end Go.Ab.R06
end
section
namespace Go.Ab.R06
open Go.Ab Go.Ab.RB Go.Lib
theorem ckT {α:Type}(x:Option α):ck True x=x:=bC trivial
theorem MK (v:am)(h:v.Df.length+v.C'.length<=1000000000000000):jG v=jx v:=by
 unfold jG jx;by_cases h1:v.Ar=0
 ·by_cases h2:v.E'=0
  ·by_cases h3:v.If=[]
   ·simp only [if_pos h1,if_pos h2,if_pos h3];rw [bC aB];by_cases h4:(v.Df.length:Int)=0
    ·rw [if_pos h4];simp only [cl,bt,decide_eq_decide]; omega
    ·rw [if_neg h4];simp only [cl,bt,decide_eq_false_iff_not]; omega
   ·simp only [if_pos h1,if_pos h2,if_neg h3]
  ·simp only [if_pos h1,if_neg h2]
 ·simp only [if_neg h1]
theorem NQ (v:am):∃ b,jx v=some b:=by
 unfold jx
 repeat' split
 all_goals exact ⟨_,Z⟩
theorem wb (e:ad)(h:e.A'.Df.length+e.A'.C'.length<=1000000000000000):iH e=fH e:=by
 obtain ⟨z,hz⟩:=NQ e.A';have hz':=(MK e.A' h).trans hz;unfold iH fH kF;rw [hz,hz']
 clear hz hz' h
 have ZM:0<=(e.By.length:Int):=by omega
 have hp:(e.By.length:Int).tmod 2=0\/(e.By.length:Int).tmod 2=1:=by
  have:=Int.emod_two_eq (e.By.length:Int)
  rwa [Int.tmod_eq_emod_of_nonneg ZM]
 generalize (e.By.length:Int)=m at ZM hp ⊢;generalize e.Ar=k;generalize e.fOp=op;generalize e.A'.Ar=vk;generalize e.A'.E'=vn;generalize e.AI=name;generalize e.Gw=key;by_cases hr:k < 1\/13 < k
 ·have e2:iq k m=some false:=by
   unfold iq;simp only [show ¬ k=1 by omega,show ¬ k=2 by omega,show ¬ k=3 by omega,show ¬ k=4 by omega,show ¬ k=5 by omega,show ¬ k=6 by omega,show ¬ k=7 by omega,show ¬ k=8 by omega,show ¬ k=9 by omega,show ¬ k=10 by omega,show ¬ k=11 by omega,show ¬ k=12 by omega,show ¬ k=13 by omega,if_false,decide_false,cl,Bool.false_eq_true]
  rw [e2];by_cases q:k < 1
  ·rw [if_pos q]; rfl
  ·rw [if_neg q,if_pos O]; rfl
 ·have hk:k=1\/k=2\/k=3\/k=4\/k=5\/k=6\/k=7\/k=8\/k=9\/k=10\/k=11\/k=12\/k=13:=by omega
  unfold jy ki pI iq io ig;unfold io;by_cases hn:name=[] <;> by_cases Ze:key=[] <;> cases z <;> rcases hp with hp | hp
  all_goals (rcases hk with rfl | rfl | rfl | rfl | rfl | rfl | rfl | rfl | rfl | rfl | rfl | rfl | rfl)
  all_goals (simp [hn,Ze,hp,ckT]; try done)
  all_goals (repeat' split)
  all_goals (try (simp_all; done))
  all_goals (try omega)
  all_goals (try simp_all)
  all_goals (repeat' split)
  all_goals (try (simp_all; done))
  all_goals (try omega)
end Go.Ab.R06
end
section
namespace Go.Ab.R06
open Go.Ab Go.Ab.RB
section
variable {p:Prop}
theorem I3 (h:p:=by
 refine av (λ h3=>aa (mk _ ?_)) (λ h3=>ag O (av (λ h4=>aa (mk _ ?_)) (λ h4=>ag O (aa (mk _ ?_)))))
 ·simp; omega
 ·simp; omega
 ·rw [decide_eq_true_eq]; omega):p:=h
end
theorem Hf (s:Bytes)(hs:s.length<=1000000000000000):∀ (k i:Nat),i+k=s.length->Ev2 (λ _ m=>da s m (i:Int)) (·=if ko (yS s) i k then .inl () else .inr false):=by
 intro k
 induction k with
 | zero =>
  intro i hi;refine aw ?_;simp only [da];refine af O (aa rfl)
 | succ k ih =>
  intro i hi;refine aw ?_;simp only [da];refine ae O (ag O ?_);have hb:byt s i=((s.getD i 0).toNat:Int):=cD s i;rw [hb];have hor:=Ow (s.getD i 0);have hok:=mx s i;rw [mq,jl] at hok;refine aj (!yS s i) ?_ ?_
  ·generalize s.getD i 0=b at hor hok ⊢;generalize yS s i=o at hok ⊢;generalize iOr .u8 ((b.toNat:Nat):Int) 32=v at hor ⊢;have hT:(ji b=true)->o=true:=λ h=>hok.2 (.inl ((mq b).1 h));have mk:∀ x:Bool,(x=true↔¬ (((97<=b.toNat/\b.toNat<=122)\/(65<=b.toNat/\b.toNat<=90)\/b.toNat=95)\/(i≠0/\48<=b.toNat/\b.toNat<=57)))->x=!o:=λ x hx=>eqB (by rw [hx,<- hok]; simp);refine ag O (av (λ h=>aa (mk _ ?_)) (λ h=>av (λ h1=>?_) (λ h1=>av (λ h2=>?_) (λ h2=>aa (mk _ ?_)))))
   ·simp; omega
   ·exact I3
   ·exact I3
   ·simp; omega
  ·cases hk:yS s i with
   | false=>exact ae G (aa (by simp [ko,hk]))
   | true =>
    refine af G (ag aB ?_);have:=ih (i+1) O;rw [Int.natCast_add,Int.natCast_one] at this;simpa [ko,hk] using this
theorem zo (s:Bytes)(hs:s.length<=1000000000000000):Ev2 (λ n _=>gw n s) (·=fh s):=by
 simp only [gw];have h:=Hf s hs s.length 0 O;have hi:=uZ s
 cases ha:ko (yS s) 0 s.length with
 | false =>
  rw [ha] at h hi;refine iC false (aN h) (eqB ?_);rw [hi]; simp
 | true =>
  rw [ha] at h hi;refine ey () (aN h) ?_;refine ah (·=fh s) (av (λ h=>aa (eqB ?_)) (λ h=>aa (eqB ?_))) (λ t ht=>aa ht)
  ·rw [hi]; simp [h]
  ·rw [hi,decide_eq_true_eq]; simp [h]; omega
theorem CP (b:UInt8):iU (b.toNat:Int)=some (ji b):=by
 simp only [iU];have h:=mq b;generalize ji b=o at h ⊢;have mk:∀ x:Bool,(x=true↔(97<=b.toNat/\b.toNat<=122)\/(65<=b.toNat/\b.toNat<=90)\/b.toNat=95)->some x=some o:=λ x hx=>congrArg some (eqB (by rw [hx,h]))
 repeat' split
 all_goals (simp only [cl]; apply mk; first | (rw [decide_eq_true_eq]; omega) | (simp; omega))
theorem Fa (s:Bytes)(hs:s.length<=1000000000000000):∀ (k i:Nat),i+k=s.length->Ev2 (λ _ m=>cN s m (i:Int)) (·=if ko (λ j=>idB (s.getD j 0)) i k then .inl () else .inr false):=by
 intro k
 induction k with
 | zero =>
  intro i hi;refine aw ?_;simp only [cN];refine af O (aa rfl)
 | succ k ih =>
  intro i hi;refine aw ?_;simp only [cN];refine ae O ?_;have hb:byt s i=((s.getD i 0).toNat:Int):=cD s i;rw [hb];refine aj (!idB (s.getD i 0)) ?_ ?_
  ·refine ag O (aj _ (ax (CP _) Z) ?_);have h:=jl (s.getD i 0);simp only [idB];generalize s.getD i 0=b at h ⊢
   cases hl:ji b with
   | true=>exact af G (aa G)
   | false =>
    refine ae G (ag O (av (λ h1=>aa ?_) (λ h1=>ag O (aa ?_))))
    ·have:d3 b=false:=by rw [<- Bool.not_eq_true,h]; omega
     simp [this]
    ·refine eqB ?_;rw [decide_eq_true_eq,Bool.false_or,Bool.not_eq_true',<- Bool.not_eq_true,h];omega
  ·cases hk:idB (s.getD i 0) with
   | false=>exact ae Z (aa (by simp only [ko,hk,Bool.false_and]; rfl))
   | true =>
    exact Cv
theorem wu (s:Bytes)(hs:s.length<=1000000000000000):Ev2 (λ n _=>gb n s) (·=fh s):=by
 simp only [gb];have hi:=yx s;refine aj (decide (s=[])||decide (64 < (s.length:Int))||!ji (s.getD 0 0)) ?_ ?_
 ·refine av (λ h=>aa (by simp [h])) (λ h=>av (λ h1=>aa (by simp [h1])) (λ h1=>ag ?_ ?_))
  ·have:=List.length_pos_iff.2 h; omega
  ·refine aj (ji (s.getD 0 0)) (ax (CP _) Z) (aa ?_);have:decide (64 < (s.length:Int))=false:=decide_eq_false h1;simp [h,this]
 ·refine av (λ h=>aa (eqB ?_)) (λ h=>?_)
  ·rw [hi]; simp at h ⊢; intro q1 q2 q3;rcases h with (h | h) | h
   ·exact absurd h q1
   ·omega
   ·rw [h] at q3; cases q3
  ·have l:=Fa s hs s.length 0 O;simp only [Bool.or_eq_true,decide_eq_true_eq,not_or] at h;obtain ⟨⟨h1,h2⟩,h3⟩:=h;have h3:ji (s.getD 0 0)=true:=by simpa using h3
   cases ha:ko (λ j=>idB (s.getD j 0)) 0 s.length with
   | false =>
    rw [ha] at l hi;refine iC false (aN l) (eqB ?_);rw [hi]; simp
   | true =>
    rw [ha] at l hi;refine ey () (aN l) (aa (eqB ?_));rw [hi]; simp only [true_iff];exact ⟨h1,by omega,h3,trivial⟩
end Go.Ab.R06
end
